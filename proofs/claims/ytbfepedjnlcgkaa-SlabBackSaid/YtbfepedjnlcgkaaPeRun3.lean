/- A plain reading of the model's code: one operation; operations in their order. -/
import Derived.Test.YtbfepedjnlcgkaaPeRun2
set_option linter.unusedVariables false
namespace Go.Proofs.Ytbfepedjnlcgkaa.Pe
open Go.RowKit
section
variable {P : Program} {T : Tys} {t : TypeId} {ti : TI} {ρ ρ' : Ren} {H H' : Heap} {w w' : World} {a : Act}
theorem map_some {α β : Type} {o : Option α} {f : α → β} {y : β} (h : o.map f = some y) : ∃ x, o = some x ∧ f x = y := Option.map_eq_some_iff.1 h
theorem all2_one {α β : Type} {R : α → β → Prop} {x : α} {ys : List β} (h : All2 R [x] ys) : ∃ y, ys = [y] ∧ R x y := by
  obtain ⟨y, rfl⟩ := List.length_eq_one_iff.1 h.1.symm
  exact ⟨y, rfl, h.2 0 _ _ rfl rfl⟩
theorem all2_two {α β : Type} {R : α → β → Prop} {x x' : α} {ys : List β} (h : All2 R [x, x'] ys) : ∃ y y', ys = [y, y'] ∧ R x y ∧ R x' y' := by
  have hl := h.1
  match ys, hl with
  | [y, y'], _ => exact ⟨y, y', rfl, h.2 0 _ _ rfl rfl, h.2 1 _ _ rfl rfl⟩
  | [], hl => simp at hl
  | [_], hl => simp at hl
  | _ :: _ :: _ :: _, hl => simp at hl
theorem arr_of_list {α : Type} {as : Array α} {l : List α} (h : as.toList = l) : as = l.toArray := by rw [← h]
/-- What is known of some operands. -/
def Hop (ρ : Ren) (H : Heap) (tm : List V) (a : Act) (l : List Operand) : Prop := ∀ x ∈ l, ∀ v, opnd tm x = some v → VRel ρ H v (a.eval x)
theorem TRel.hop {tm : List V} (ht : TRel ρ H tm a.tmps) (l : List Operand) : Hop ρ H tm a l := fun x _ v h => opnd_rel ht h
theorem ORel_of {tm : List V} {x : Option Operand} {y : Option V} (ht : Hop ρ H tm a x.toList) (h : opndO tm x = some y) : ORel ρ H y (x.map a.eval) := by
  cases x with
  | none => cases h; trivial
  | some x =>
    obtain ⟨v, h1, rfl⟩ := map_some (h : (opnd tm x).map some = some y)
    exact ht x (by simp) v h1
theorem opnds_hop {tm : List V} : ∀ {l : List Operand} {vs : List V}, Hop ρ H tm a l → opnds tm l = some vs → All2 (VRel ρ H) vs (l.map a.eval)
  | [], vs, _, h => by cases h; exact All2.nil
  | x :: l, vs, ht, h => by
    have h2 : (match opnd tm x, opnds tm l with
      | some v, some vs => some (v :: vs)
      | _, _ => none) = some vs := h
    split at h2
    · rename_i v vs' h3 h4
      cases h2
      exact All2.cons (ht x List.mem_cons_self v h3) (opnds_hop (fun y hy => ht y (List.mem_cons_of_mem _ hy)) h4)
    · cases h2
theorem parts_hop {tm : List V} : ∀ {l : List (Nat × Operand)} {vs : List (Nat × V)}, Hop ρ H tm a (l.map (·.2)) → parts tm l = some vs → All2 (fun (x : Nat × V) (y : Nat × Value) => x.1 = y.1 ∧ VRel ρ H x.2 y.2) vs (l.map fun p => (p.1, a.eval p.2))
  | [], vs, _, h => by cases h; exact All2.nil
  | x :: l, vs, ht, h => by
    have h2 : (match opnd tm x.2, parts tm l with
      | some v, some vs => some ((x.1, v) :: vs)
      | _, _ => none) = some vs := h
    split at h2
    · rename_i v vs' h3 h4
      cases h2
      exact All2.cons ⟨rfl, ht x.2 (by simp) v h3⟩ (parts_hop (fun y hy => ht y (by simp only [List.map_cons, List.mem_cons]; exact .inr hy)) h4)
    · cases h2
theorem evOp_goes {call : CallF} (hT : TabOk P T) (hcall : CallOk P call) {o : Oper} {tm : List V} {v : V} (h : evOp T call o.op tm H = some (v, H')) (ht : Hop ρ H tm a o.op.operands.toList) (hH : HRel ρ H w) : Goes P o a w ρ H v H' := by
  unfold evOp at h
  split at h
  · rename_i x ho
    obtain ⟨u, h1, h2⟩ := map_some h; cases h2
    exact goes_val (cv := a.eval x) (by simp [execOp, ho]) (ht _ (by simp [ho, Op.operands]) _ h1) (Step.refl hH)
  · rename_i x ho
    obtain ⟨u, h1, h2⟩ := map_some h; cases h2
    exact goes_val (cv := a.eval x) (by simp [execOp, ho]) (ht _ (by simp [ho, Op.operands]) _ h1) (Step.refl hH)
  · rename_i c x y ho
    split at h
    · rename_i hc
      obtain ⟨u, h1, h2⟩ := map_some h; cases h2
      have hb := ht _ (by simp [ho, Op.operands]) _ hc
      simp only [VRel, CRel] at hb
      exact goes_val (cv := a.eval x) (by simp [execOp, ho, hb, asBool]) (ht _ (by simp [ho, Op.operands]) _ h1) (Step.refl hH)
    · rename_i hc
      obtain ⟨u, h1, h2⟩ := map_some h; cases h2
      have hb := ht _ (by simp [ho, Op.operands]) _ hc
      simp only [VRel, CRel] at hb
      exact goes_val (cv := a.eval y) (by simp [execOp, ho, hb, asBool]) (ht _ (by simp [ho, Op.operands]) _ h1) (Step.refl hH)
    · cases h
  · rename_i t ho
    exact goes_mem (r := (v, H')) (by simp [execOp, ho]) (alloc_rel hT hH h)
  · rename_i t x ho
    split at h
    · rename_i u hu
      exact goes_mem (r := (v, H')) (by simp [execOp, ho]) (box_rel (t := t) hH (ht _ (by simp [ho, Op.operands]) _ hu) h)
    · cases h
  · rename_i t ps ho
    split at h
    · rename_i vs hvs
      obtain ⟨u, h1, h2⟩ := map_some h; cases h2
      exact goes_pure (by simp [execOp, ho]) hH (vbuild_rel (qs := ps.map fun p => (p.1, a.eval p.2)) hT h1 (by simpa using parts_hop (fun x hx => ht x (by simp only [ho, Op.operands]; simpa using hx)) hvs))
    · cases h
  · rename_i t n ps ho
    split at h
    · rename_i vs hvs
      exact goes_mem (r := (v, H')) (by simp [execOp, ho]) (vbuildSlice_rel (qs := ps.map fun p => (p.1, a.eval p.2)) hT hH h (by simpa using parts_hop (fun x hx => ht x (by simp only [ho, Op.operands]; simpa using hx)) hvs))
    · cases h
  · rename_i t x ho
    split at h
    · rename_i u hu
      obtain ⟨z, h1, h2⟩ := map_some h; cases h2
      exact goes_pure (by simp [execOp, ho]) hH (vload_rel hT h1 hH (ht _ (by simp [ho, Op.operands]) _ hu))
    · cases h
  · rename_i t x y ho
    split at h
    · rename_i u1 u2 hu1 hu2
      obtain ⟨H2, h1, h2⟩ := map_some h; cases h2
      obtain ⟨w2, h3, h4⟩ := vstore_rel (P := P) hT h1 hH (ht _ (by simp [ho, Op.operands]) _ hu1) (ht _ (by simp [ho, Op.operands]) _ hu2)
      intro next Q k
      unfold Oper.wp
      have hrun : (execOp a.eval o).run P w = .ok .skip w2 := by simp [execOp, ho, h3]
      rw [hrun]
      exact k undef ρ w2 rfl h4
    · cases h
  · rename_i op t x y t2 ho
    split at h
    · rename_i u1 u2 hu1 hu2
      obtain ⟨z, h1, h2⟩ := map_some h; cases h2
      exact goes_pure (by simp [execOp, ho]) hH (vbin_rel (ox := x) (oy := y) hT h1 (ht _ (by simp [ho, Op.operands]) _ hu1) (ht _ (by simp [ho, Op.operands]) _ hu2))
    · cases h
  · rename_i op t x ho
    split at h
    · rename_i u1 hu1
      obtain ⟨z, h1, h2⟩ := map_some h; cases h2
      exact goes_pure (by simp [execOp, ho]) hH (vun_rel h1 (ht _ (by simp [ho, Op.operands]) _ hu1))
    · cases h
  · rename_i s d x ho
    split at h
    · rename_i u1 hu1
      exact goes_mem (r := (v, H')) (by simp [execOp, ho]) (vconvert_rel hT hH h (ht _ (by simp [ho, Op.operands]) _ hu1))
    · cases h
  · rename_i t x ho
    split at h
    · rename_i u1 hu1
      obtain ⟨z, h1, h2⟩ := map_some h; cases h2
      exact goes_pure (by simp [execOp, ho]) hH (vasPtr_rel hT h1 (ht _ (by simp [ho, Op.operands]) _ hu1))
    · cases h
  · rename_i t l c ho
    split at h
    · rename_i u1 u2 hu1 hu2
      exact goes_mem (r := (v, H')) (by simp [execOp, ho]) (vmakeSlice_rel hT hH h (ht _ (by simp [ho, Op.operands]) _ hu1) (ht _ (by simp [ho, Op.operands]) _ hu2))
    · cases h
  · rename_i t x lo hi ho
    split at h
    · rename_i u1 l1 h1 hu1 hl1 hh1
      obtain ⟨z, h1, h2⟩ := map_some h; cases h2
      exact goes_pure (by simp [execOp, ho]) hH (vslice_rel hT h1 (ht _ (by simp [ho, Op.operands]) _ hu1) (ORel_of (fun x hx => ht x (by simp only [ho, Op.operands]; simp at hx ⊢; simp [hx])) hl1) (ORel_of (fun x hx => ht x (by simp only [ho, Op.operands]; simp at hx ⊢; simp [hx])) hh1))
    · cases h
  · rename_i t x f ho
    split at h
    · rename_i u1 hu1
      obtain ⟨z, h1, h2⟩ := map_some h; cases h2
      exact goes_pure (by simp [execOp, ho]) hH (vfieldAddr_rel hT h1 (ht _ (by simp [ho, Op.operands]) _ hu1))
    · cases h
  · rename_i t x f ho
    split at h
    · rename_i u1 hu1
      obtain ⟨z, h1, h2⟩ := map_some h; cases h2
      exact goes_pure (by simp [execOp, ho]) hH (vfield_rel hT h1 (ht _ (by simp [ho, Op.operands]) _ hu1))
    · cases h
  · rename_i t x y ho
    split at h
    · rename_i u1 u2 hu1 hu2
      obtain ⟨z, h1, h2⟩ := map_some h; cases h2
      exact goes_pure (by simp [execOp, ho]) hH (vindexAddr_rel hT h1 (ht _ (by simp [ho, Op.operands]) _ hu1) (ht _ (by simp [ho, Op.operands]) _ hu2))
    · cases h
  · rename_i t x y ho
    split at h
    · rename_i u1 u2 hu1 hu2
      obtain ⟨z, h1, h2⟩ := map_some h; cases h2
      exact goes_pure (by simp [execOp, ho]) hH (vindex_rel hT h1 (ht _ (by simp [ho, Op.operands]) _ hu1) (ht _ (by simp [ho, Op.operands]) _ hu2))
    · cases h
  · rename_i x j ho
    split at h
    · rename_i vs hvs
      obtain ⟨z, h1, h2⟩ := map_some h; cases h2
      rw [getL_eq] at h1
      obtain ⟨us, e1, e2⟩ := ht _ (by simp [ho, Op.operands]) _ hvs
      obtain ⟨u, e3, e4⟩ := e2.get h1
      have e5 : us[j]? = some u := by simpa using e3
      exact goes_val (cv := u) (by simp [execOp, ho, Instr.extract, e1, e5]) e4.toV (Step.refl hH)
    · cases h
  · rename_i f as ts ho
    split at h
    · rename_i vs hvs
      exact goes_call hcall ho h hH (by simpa using opnds_hop (fun x hx => ht x (by simp only [ho, Op.operands, Call.operands]; simp at hx ⊢; exact .inr hx)) hvs)
    · cases h
  · rename_i as ts ho
    split at h
    · rename_i x t hx hts
      obtain ⟨z, h1, h2⟩ := map_some h; cases h2
      obtain ⟨u, e1, e2⟩ := all2_one (opnds_hop (fun x hx => ht x (by simp only [ho, Op.operands, Call.operands]; simpa using hx)) hx)
      have e3 : as.map a.eval = #[u] := by apply Array.ext'; simpa using e1
      have e4 : ts = #[t] := arr_of_list hts
      subst e4
      obtain ⟨r, h3, h4⟩ := vlen_rel (P := P) (w := w) (ty := o.type) hT h1 hH e2
      exact goes_val (cv := r) (by unfold execOp; simp [ho, resolve, invoke, builtin, e3, h3]) h4 (Step.refl hH)
    · cases h
  · rename_i as ts ho
    split at h
    · rename_i s x t t2 hx hts
      obtain ⟨u1, u2, e1, e2, e2'⟩ := all2_two (opnds_hop (fun x hx => ht x (by simp only [ho, Op.operands, Call.operands]; simpa using hx)) hx)
      have e3 : as.map a.eval = #[u1, u2] := by apply Array.ext'; simpa using e1
      have e4 : ts = #[t, t2] := arr_of_list hts
      subst e4
      obtain ⟨cv, ρ', w', h3, h4, h5⟩ := vappend_rel (P := P) (ty := o.type) hT hH h e2 e2'
      exact goes_val (cv := cv) (w' := w') (by unfold execOp; simp [ho, resolve, invoke, builtin, e3, h3]) h4 h5
    · cases h
  · rename_i as ts ho
    split at h
    · rename_i s x t t2 hx hts
      obtain ⟨u1, u2, e1, e2, e2'⟩ := all2_two (opnds_hop (fun x hx => ht x (by simp only [ho, Op.operands, Call.operands]; simpa using hx)) hx)
      have e3 : as.map a.eval = #[u1, u2] := by apply Array.ext'; simpa using e1
      have e4 : ts = #[t, t2] := arr_of_list hts
      subst e4
      obtain ⟨cv, ρ', w', h3, h4, h5⟩ := vcopy_rel (P := P) (t2 := t2) (ty := o.type) hT hH h e2 e2'
      exact goes_val (cv := cv) (w' := w') (by unfold execOp; simp [ho, resolve, invoke, builtin, e3, h3]) h4 h5
    · cases h
  · rename_i as ts ho
    split at h
    · rename_i x r hx
      obtain ⟨z, h1, h2⟩ := map_some h; cases h2
      have e0 := opnds_hop (fun x hx => ht x (by simp only [ho, Op.operands, Call.operands]; simpa using hx)) hx
      cases hm : as.toList.map a.eval with
      | nil => have := e0.1; rw [hm] at this; simp at this
      | cons u us =>
        rw [hm] at e0
        obtain ⟨q, h3, h4⟩ := minC_rel (P := P) (w := w) false h1 (e0.2 0 _ _ rfl rfl) (vs := us) ⟨by simpa using e0.1, fun i x y p q => e0.2 (i + 1) x y (by simpa using p) (by simpa using q)⟩
        have e3 : as.map a.eval = (u :: us).toArray := by apply Array.ext'; simpa using hm
        have h3' : (us.foldlM Builtin.min2 u).run P w = .ok q w := by simpa using h3
        exact goes_val (cv := q) (by unfold execOp; simp [ho, resolve, invoke, builtin, e3, Builtin.min_, h3']) h4 (Step.refl hH)
    · cases h
  · rename_i as ts ho
    split at h
    · rename_i x r hx
      obtain ⟨z, h1, h2⟩ := map_some h; cases h2
      have e0 := opnds_hop (fun x hx => ht x (by simp only [ho, Op.operands, Call.operands]; simpa using hx)) hx
      cases hm : as.toList.map a.eval with
      | nil => have := e0.1; rw [hm] at this; simp at this
      | cons u us =>
        rw [hm] at e0
        obtain ⟨q, h3, h4⟩ := minC_rel (P := P) (w := w) true h1 (e0.2 0 _ _ rfl rfl) (vs := us) ⟨by simpa using e0.1, fun i x y p q => e0.2 (i + 1) x y (by simpa using p) (by simpa using q)⟩
        have e3 : as.map a.eval = (u :: us).toArray := by apply Array.ext'; simpa using hm
        have h3' : (us.foldlM Builtin.max2 u).run P w = .ok q w := by simpa using h3
        exact goes_val (cv := q) (by unfold execOp; simp [ho, resolve, invoke, builtin, e3, Builtin.max_, h3']) h4 (Step.refl hH)
    · cases h
  · rename_i t ho
    cases h
    exact goes_mem (r := (.c (.m H.length), appL H [.mp true []])) (by simp [execOp, ho]) (makeMap_rel (t := t) hH)
  · rename_i t m k ho
    split at h
    · rename_i u1 u2 hu1 hu2
      obtain ⟨z, h1, h2⟩ := map_some h; cases h2
      exact goes_pure (by simp [execOp, ho]) hH (vlookup_rel hT h1 hH (ht _ (by simp [ho, Op.operands]) _ hu1) (ht _ (by simp [ho, Op.operands]) _ hu2))
    · cases h
  · rename_i t m k x ho
    split at h
    · rename_i u1 u2 u3 hu1 hu2 hu3
      obtain ⟨H2, h1, h2⟩ := map_some h; cases h2
      obtain ⟨w2, h3, h4⟩ := vmapUpd_rel (P := P) hT h1 hH (ht _ (by simp [ho, Op.operands]) _ hu1) (ht _ (by simp [ho, Op.operands]) _ hu2) (ht _ (by simp [ho, Op.operands]) _ hu3)
      intro next Q k
      unfold Oper.wp
      have hrun : (execOp a.eval o).run P w = .ok .skip w2 := by simp [execOp, ho, h3]
      rw [hrun]
      exact k undef ρ w2 rfl h4
    · cases h
  · cases h
end
end Go.Proofs.Ytbfepedjnlcgkaa.Pe
