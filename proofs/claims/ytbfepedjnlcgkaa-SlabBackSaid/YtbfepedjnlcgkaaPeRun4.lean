/- A plain reading of the model's code: operations in their order, guards and all. -/
import Derived.Test.YtbfepedjnlcgkaaPeRun3
set_option linter.unusedVariables false
namespace Go.Proofs.Ytbfepedjnlcgkaa.Pe
open Go.RowKit
section
variable {P : Program} {T : Tys} {t : TypeId} {ti : TI} {ρ ρ' : Ren} {H H' : Heap} {w w' : World} {a : Act}
theorem TRel.at_ {tm : List V} {tmps : Array Value} (h : TRel ρ H tm tmps) {d : Nat} {x : V} (hx : tm[d]? = some x) : ∃ v, tmps[d]? = some v ∧ VRel ρ H x v := by
  have hd : d < tmps.size := by rw [← h.len]; exact (List.getElem?_eq_some_iff.1 hx).1
  exact ⟨tmps[d], by simp [hd], by have := h.val d x hx; simpa [hd] using this⟩
theorem wanted_rel' {ops : List Oper} {o : Oper} {tm : List V} {b : Bool} (ht : ∀ j want d x, o.guard = some (j, want) → gdst ops j = some d → tm[d]? = some x → ∃ v, a.tmps[d]? = some v ∧ VRel ρ H x v) (h : wantedE ops o tm = some b) : Region.wanted o (yielded ops.toArray a.tmps) = b := by
  unfold wantedE at h
  split at h
  · rename_i hg
    cases h
    simp [Region.wanted, hg]
  · rename_i j want hg
    split at h
    · rename_i d hd
      have hdj : (ops.toArray[j]?).bind (·.dst) = some d := by
        have hd2 := hd
        unfold gdst at hd2
        rw [getL_eq] at hd2
        simp only [List.getElem?_toArray]
        cases hq : ops[j]? with
        | none => simp [hq] at hd2
        | some o2 => simpa [hq] using hd2
      split at h
      · rename_i x hx
        cases h
        rw [getL_eq] at hx
        obtain ⟨v, h1, h2⟩ := ht j want d _ hg hd hx
        simp only [VRel, CRel] at h2
        subst h2
        simp only [Region.wanted, hg, yielded, hdj, Option.bind_some, h1]
        cases x <;> cases want <;> rfl
      · rename_i hx
        cases h
        rw [getL_eq] at hx
        obtain ⟨v, h1, h2⟩ := ht j want d _ hg hd hx
        simp only [VRel, CRel] at h2
        subst h2
        simp only [Region.wanted, hg, yielded, hdj, Option.bind_some, h1, undef]
        rfl
      · cases h
    · cases h
theorem wanted_rel {ops : List Oper} {o : Oper} {tm : List V} {b : Bool} (ht : TRel ρ H tm a.tmps) (h : wantedE ops o tm = some b) : Region.wanted o (yielded ops.toArray a.tmps) = b :=
  wanted_rel' (fun _ _ _ _ _ _ hx => ht.at_ hx) h
theorem TRel.later {tm : List V} {tmps : Array Value} (h : TRel ρ H tm tmps) (l : Later ρ H ρ' H') : TRel ρ' H' tm tmps := ⟨h.len, fun t x hx => (h.val t x hx).later l⟩
theorem TRel.put {tm tm' : List V} {dst : Option Tmp} {v : V} {cv : Value} (h : TRel ρ H tm a.tmps) (hp : putT tm dst v = some tm') (hv : VRel ρ H v cv) : TRel ρ H tm' (a.put dst cv).tmps := by
  cases dst with
  | none => cases hp; exact h
  | some d =>
    obtain ⟨h1, h2⟩ := setL_some _ _ _ _ hp
    subst h1
    refine ⟨by simpa [Act.put] using h.len, fun t x hx => ?_⟩
    rw [List.getElem?_set] at hx
    split at hx
    · rename_i e
      subst e
      have hx : v = x := by simpa [h2] using hx
      subst hx
      have : d < a.tmps.size := by rw [← h.len]; exact h2
      simpa [Act.put, this] using hv
    · rename_i e
      have hd := h.val t x hx
      simpa [Act.put, Array.getElem?_setIfInBounds, e] using hd
theorem put_defers (a : Act) (d : Option Tmp) (v : Value) : (a.put d v).defers = a.defers := by cases d <;> rfl
/-- One operation of a region, in its turn. -/
theorem evStep_goes {call : CallF} (hT : TabOk P T) (hcall : CallOk P call) {ops : List Oper} {i : Nat} {o : Oper} {tm tm' : List V} {v : V} (hi : ops[i]? = some o) (h : evStep T call ops o tm H = some (v, H')) (hp : putT tm o.dst v = some tm') (ht : TRel ρ H tm a.tmps) (hH : HRel ρ H w)
    {K : Act → World → Prop} {Q : Exit → Act → World → Prop} (k : ∀ a' ρ' w', TRel ρ' H' tm' a'.tmps → a'.defers = a.defers → Step ρ H w ρ' H' w' → K a' w') : wpOp P ops.toArray Q i K a w := by
  have hi' : ops.toArray[i]? = some o := by simpa using hi
  unfold wpOp
  simp only [hi']
  unfold evStep at h
  split at h
  · rename_i hw
    rw [wanted_rel ht hw]
    simp only [if_true]
    refine .inl (evOp_goes hT hcall h (ht.hop _) hH K Q fun cv ρ' w' h1 h2 => k _ ρ' w' ?_ (put_defers _ _ _) h2)
    exact (ht.later h2.later).put hp h1
  · rename_i hw
    rw [wanted_rel ht hw]
    cases h
    exact k _ ρ w (ht.put hp rfl) (put_defers _ _ _) (Step.refl hH)
  · cases h
theorem evSeq_cons {call : CallF} {ops : List Oper} {o : Oper} {l : List Oper} {tm : List V} : evSeq T call ops (o :: l) tm H = (match evStep T call ops o tm H with
      | some (v, H') => match putT tm o.dst v with
        | some tm' => evSeq T call ops l tm' H'
        | none => none
      | none => none) := by
  show (match evStep T call ops o tm H with
      | some (v, H') => forceV v fun v => match putT tm o.dst v with
        | some tm' => evSeq T call ops l tm' H'
        | none => none
      | none => none) = _
  split <;> simp only [forceV_eq]
theorem drop_cons {α : Type} {ops : List α} {k : Nat} {o : α} {l : List α} (h : ops.drop k = o :: l) : ops[k]? = some o ∧ ops.drop (k + 1) = l := by
  have h1 : ops[k]? = some o := by
    have := congrArg (fun x => x[0]?) h
    simpa [List.getElem?_drop] using this
  refine ⟨h1, ?_⟩
  rw [← List.drop_drop, h]
  rfl
theorem evSeq_goes {call : CallF} (hT : TabOk P T) (hcall : CallOk P call) {ops : List Oper} {Q : Exit → Act → World → Prop} : ∀ (l : List Oper) (k : Nat) {tm tm' : List V} {H H' : Heap} {ρ : Ren} {w : World} {a : Act}, ops.drop k = l → evSeq T call ops l tm H = some (tm', H') → TRel ρ H tm a.tmps → HRel ρ H w →
    (∀ a' ρ' w', TRel ρ' H' tm' a'.tmps → a'.defers = a.defers → Step ρ H w ρ' H' w' → Q .normal a' w') → wpOps P ops.toArray Q (List.range' k l.length) a w
  | [], k, tm, tm', H, H', ρ, w, a, hl, h, ht, hH, hQ => by
    cases h
    exact hQ a ρ w ht rfl (Step.refl hH)
  | o :: l, k, tm, tm', H, H', ρ, w, a, hl, h, ht, hH, hQ => by
    obtain ⟨h1, h2⟩ := drop_cons hl
    rw [evSeq_cons] at h
    split at h
    · rename_i v H1 hs
      split at h
      · rename_i tm1 hp
        rw [List.length_cons, List.range'_succ, wpOps_cons]
        refine evStep_goes hT hcall h1 hs hp ht hH fun a1 ρ1 w1 t1 d1 s1 => ?_
        exact evSeq_goes hT hcall l (k + 1) h2 h t1 s1.rel fun a' ρ' w' t' d' s' => hQ a' ρ' w' t' (d'.trans d1) (s1.trans s')
      · cases h
    · cases h
/-- A region in its order. -/
theorem region_goes {call : CallF} (hT : TabOk P T) (hcall : CallOk P call) {ops : Array Oper} {id : Nat} {Q : Exit → Act → World → Prop} {tm tm' : List V} (h : evSeq T call ops.toList ops.toList tm H = some (tm', H')) (ht : TRel ρ H tm a.tmps) (hH : HRel ρ H w)
    (hQ : ∀ a' ρ' w', TRel ρ' H' tm' a'.tmps → a'.defers = a.defers → Step ρ H w ρ' H' w' → Q .normal a' w') : (Code.region id ops false).wp P Q a w := by
  refine wp_region ?_
  have := evSeq_goes (P := P) hT hcall (ops := ops.toList) (Q := Q) ops.toList 0 rfl h ht hH hQ
  rw [← List.range_eq_range'] at this
  simpa using this
end
end Go.Proofs.Ytbfepedjnlcgkaa.Pe
