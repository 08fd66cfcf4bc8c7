/- A plain reading of the model's code: calls and operations. -/
import Derived.Test.YtbfepedjnlcgkaaPeRun1
set_option linter.unusedVariables false
namespace Go.Proofs.Ytbfepedjnlcgkaa.Pe
open Go.RowKit
section
variable {P : Program} {T : Tys} {t : TypeId} {ti : TI} {ρ ρ' ρ1 ρ2 : Ren} {H H' H1 H2 N : Heap} {w w' : World} {a : Act}
/-! ### values under other names -/
theorem CRel.ren {f : Nat → Nat} {c : C} {v : Value} (h : CRel ρ1 H1 c v) (m : ∀ j, c.ref = some j → ∀ k, Gb H1 j k → Gb H2 (f j) k ∧ ρ2 (f j) k = ρ1 j k) : CRel ρ2 H2 (c.ren f) v := by
  cases c <;> try exact h
  case p id off => obtain ⟨g, ad, e, hv⟩ := h; obtain ⟨m1, m2⟩ := m id rfl _ g; exact ⟨m1, ad, m2.trans e, hv⟩
  case q id off gen => obtain ⟨g, ad, n, c, e, hv⟩ := h; obtain ⟨m1, m2⟩ := m id rfl _ g; exact ⟨m1, ad, n, c, m2.trans e, hv⟩
  case sl id off len gen =>
    obtain ⟨g, hlg, A, c, hv, hl, hf, ha⟩ := h
    obtain ⟨m1, m2⟩ := m id rfl _ g
    refine ⟨m1, hlg, A, c, hv, hl, fun h1 h2 => (hf h1 h2).trans m2.symm, fun h1 => ?_⟩
    obtain ⟨ad, n, c', e, r⟩ := ha h1
    exact ⟨ad, n, c', m2.trans e, r⟩
  case va id off len cap =>
    obtain ⟨g, A, hv, hl, ha⟩ := h
    obtain ⟨m1, m2⟩ := m id rfl _ g
    refine ⟨m1, A, hv, hl, fun h1 => ?_⟩
    obtain ⟨ad, e, r⟩ := ha h1
    exact ⟨ad, m2.trans e, r⟩
  case vr id off len cap gen =>
    obtain ⟨g, A, hv, hl, ha⟩ := h
    obtain ⟨m1, m2⟩ := m id rfl _ g
    refine ⟨m1, A, hv, hl, fun h1 => ?_⟩
    obtain ⟨ad, n, c', e, r⟩ := ha h1
    exact ⟨ad, n, c', m2.trans e, r⟩
  case m id => obtain ⟨g, r, e, hv⟩ := h; obtain ⟨m1, m2⟩ := m id rfl _ g; exact ⟨m1, r, m2.trans e, hv⟩
theorem ren_un {f : Nat → Nat} {c : C} (h : c ≠ .un) : c.ren f ≠ .un := by cases c <;> simp_all [C.ren]
theorem Cels.ren {f : Nat → Nat} : ∀ {cs : List C} {vs : List Value}, Cels ρ1 H1 cs vs → (∀ j, j ∈ cs.filterMap C.ref → ∀ k, Gb H1 j k → Gb H2 (f j) k ∧ ρ2 (f j) k = ρ1 j k) → Cels ρ2 H2 (cs.map (C.ren f)) vs := by
  intro cs vs h m
  refine ⟨by simp [h.1], fun i x y hx hy => ?_⟩
  rw [List.getElem?_map, Option.map_eq_some_iff] at hx
  obtain ⟨c, hc, rfl⟩ := hx
  obtain ⟨h1, h2⟩ := h.2 i c y hc hy
  exact ⟨ren_un h1, h2.ren fun j hj => m j (List.mem_filterMap.2 ⟨c, List.mem_of_getElem? hc, hj⟩)⟩
theorem V1Rel.ren {f : Nat → Nat} {x : V1} {v : Value} (h : V1Rel ρ1 H1 x v) (m : ∀ j, j ∈ x.refs → ∀ k, Gb H1 j k → Gb H2 (f j) k ∧ ρ2 (f j) k = ρ1 j k) : V1Rel ρ2 H2 (x.ren f) v := by
  cases x with
  | c c => exact CRel.ren h fun j hj => m j (by simp [V1.refs, hj])
  | ag n xs =>
    obtain ⟨vs, h1, h2, h3⟩ := h
    exact ⟨vs, h1, by simpa using h2, h3.ren m⟩
theorem VRel.ren {f : Nat → Nat} {x : V} {v : Value} (h : VRel ρ1 H1 x v) (m : ∀ j, j ∈ x.refs → ∀ k, Gb H1 j k → Gb H2 (f j) k ∧ ρ2 (f j) k = ρ1 j k) : VRel ρ2 H2 (x.ren f) v := by
  cases x with
  | c c => exact CRel.ren h fun j hj => m j (by simp [V.refs, hj])
  | ag n xs =>
    obtain ⟨vs, h1, h2, h3⟩ := h
    exact ⟨vs, h1, by simpa using h2, h3.ren m⟩
  | t xs =>
    obtain ⟨vs, h1, h2⟩ := h
    refine ⟨vs, h1, by simp [h2.1], fun i x y hx hy => ?_⟩
    rw [List.getElem?_map, Option.map_eq_some_iff] at hx
    obtain ⟨c, hc, rfl⟩ := hx
    exact (h2.2 i c y hc hy).ren fun j hj => m j (List.mem_flatMap.2 ⟨c, List.mem_of_getElem? hc, hj⟩)
theorem C.ren_id (c : C) : c.ren (fun j => j) = c := by cases c <;> rfl
theorem V1.ren_id (x : V1) : x.ren (fun j => j) = x := by
  cases x with
  | c c => simp [V1.ren, C.ren_id]
  | ag n xs => simp only [V1.ren, V1.ag.injEq, true_and]; exact (List.map_congr_left fun c _ => C.ren_id c).trans (List.map_id' xs)
theorem V.ren_id (x : V) : x.ren (fun j => j) = x := by
  cases x with
  | c c => simp [V.ren, C.ren_id]
  | ag n xs => simp only [V.ren, V.ag.injEq, true_and]; exact (List.map_congr_left fun c _ => C.ren_id c).trans (List.map_id' xs)
  | t xs => simp only [V.ren, V.t.injEq]; exact (List.map_congr_left fun c _ => V1.ren_id c).trans (List.map_id' xs)
/-- What is left behind a call. -/
theorem gc_rel {v : V} {cv : Value} (hH : HRel ρ H w) (h : Step ρ H w ρ' (H ++ N) w') (hs : ∀ g, g < w.heap.size → w'.heap[g]? = w.heap[g]?) (hv : VRel ρ' (H ++ N) v cv) :
    ∃ ρ'', VRel ρ'' (gc H v N).2 (gc H v N).1 cv ∧ Step ρ H w ρ'' (gc H v N).2 w' := by
  have hB : Below w.heap.size w w' := ⟨h.keep.os, h.keep.tape, h.keep.output, h.keep.size, hs⟩
  have hGb : ∀ j k, j < H.length → Gb (H ++ N) j k → Gb H j k := fun j k hj ⟨b, hb, hk⟩ => ⟨b, by rw [List.getElem?_append_left hj] at hb; exact hb, hk⟩
  have all : ∃ ρ'', VRel ρ'' (H ++ N) v cv ∧ Step ρ H w ρ'' (H ++ N) w' := ⟨ρ', hv, h⟩
  unfold gc
  rw [V.refsQ_eq]
  split
  · rename_i hf
    refine ⟨ρ, ?_, ⟨⟨fun id b hb => (hH.blk id b hb).keep h.keep.size (fun g hg _ => hs g hg), hH.dis⟩, fun _ _ _ => rfl, fun id b hb => ⟨b, hb, Nat.le_refl _, fun _ => rfl⟩, ⟨h.keep.os, h.keep.tape, h.keep.output, h.keep.size, fun g hg _ => hs g hg⟩, fun id b g hb ho => .inr ⟨b, hb, ho⟩⟩⟩
    have := hv.ren (f := fun j => j) (ρ2 := ρ) (H2 := H) fun j hj k hg => by
      have hlt : j < H.length := by
        rcases Nat.lt_or_ge j H.length with h1 | h1
        · exact h1
        · have : j ∈ v.refs.filter (fun id => Nat.ble H.length id) := List.mem_filter.2 ⟨hj, Nat.ble_eq_true_of_le h1⟩
          rw [hf] at this
          cases this
      have hg := hGb j k hlt hg
      exact ⟨hg, (h.agree j k hg).symm⟩
    rw [V.ren_id] at this
    exact this
  · rename_i id hf
    split
    · rename_i wr cs n lo sz e hb
      rw [getL_eq] at hb
      cases hnr : (Bk.row wr cs n lo sz e).cellsNoRef with
      | false => simpa [appL_eq] using all
      | true =>
        simp only [cond_true, appL_eq]
        have hid : H.length ≤ id := by
          have : id ∈ v.refs.filter (fun id => Nat.ble H.length id) := by rw [hf]; exact List.mem_cons_self
          exact ble_nat (List.mem_filter.1 this).2
        have hb' : (H ++ N)[id]? = some (.row wr cs n lo sz e) := by rw [List.getElem?_append_right hid]; exact hb
        obtain ⟨q1, q2, q3, q4⟩ := h.rel.blk id _ hb'
        have hocc : ∀ g, Occ ρ' id (.row wr cs n lo sz e) g → w.heap.size ≤ g := fun g ho => by
          rcases h.occ id _ g hb' ho with h1 | ⟨b0, h1, _⟩
          · exact h1
          · have := (List.getElem?_eq_some_iff.1 h1).1; omega
        refine ⟨turn ρ H.length (ρ' id), hv.ren fun j hj k hg => ?_, step_push hH hB ⟨q1, q2, q3, fun k k1 k2 => ?_⟩ ?_⟩
        · by_cases hlt : j < H.length
          · have hg := hGb j k hlt hg
            have hj2 : (bif Nat.ble (j + 1) H.length then j else H.length) = j := by rw [Nat.ble_eq_true_of_le hlt]; rfl
            rw [hj2]
            exact ⟨(push_later (ρ := ρ) (ρ' id) _).gb _ _ hg, by rw [turn_other _ _ _ (by omega), h.agree j k hg]⟩
          · have hjid : j = id := by
              have : j ∈ v.refs.filter (fun id => Nat.ble H.length id) := List.mem_filter.2 ⟨hj, Nat.ble_eq_true_of_le (by omega)⟩
              rw [hf] at this
              simpa using this
            have hj2 : (bif Nat.ble (j + 1) H.length then j else H.length) = H.length := by
              have : Nat.ble (j + 1) H.length = false := by rw [ble_eq]; simp; omega
              rw [this]; rfl
            rw [hj2, turn_same, hjid]
            rw [hjid] at hg
            obtain ⟨b, h1, h2⟩ := hg
            rw [hb'] at h1
            cases h1
            exact ⟨Gb_push _ _ h2, rfl⟩
        · obtain ⟨xs, r1, r2⟩ := q4 k k1 k2
          refine ⟨xs, ?_, by rw [turn_same]; exact r2⟩
          have hno : ∀ c ∈ cs.take (k * sz), c.ref = none := fun c hc => by
            have := List.all_eq_true.1 hnr c (List.mem_of_mem_take hc)
            simpa using this
          have := Cels.ren (f := fun j => j) (ρ2 := turn ρ H.length (ρ' id)) (H2 := H ++ [.row wr cs n lo sz e]) r1 fun j hj => by
            obtain ⟨c, hc, hcj⟩ := List.mem_filterMap.1 hj
            rw [hno c hc] at hcj
            cases hcj
          rw [(List.map_congr_left fun c _ => C.ren_id c).trans (List.map_id' _)] at this
          exact this
        · intro g ho
          obtain ⟨k, k1, k2, k3⟩ := ho
          rw [turn_same] at k3
          exact hocc g ⟨k, k1, k2, k3⟩
    · simpa [appL_eq] using all
  · simpa [appL_eq] using all
/-! ### calls -/
def CallOk (P : Program) (call : CallF) : Prop := ∀ f args H v H', call f args H = some (v, H') → (∃ fn, P.funcs[f]? = some fn ∧ (fn.name == "runtime.NumGoroutine") = false ∧ fn.body.isSome = true) ∧
  ∀ ρ w (cargs : Array Value), HRel ρ H w → All2 (VRel ρ H) args cargs.toList → Calls P f cargs w fun e w' => ∃ cv ρ', e = .returned cv ∧ VRel ρ' H' v cv ∧ Step ρ H w ρ' H' w'
theorem vcall_rel {call : CallF} (hcall : CallOk P call) {f : FuncId} {args : List V} {r : V × Heap} (h : vcall call f args H = some r) {cargs : Array Value} (hH : HRel ρ H w) (ha : All2 (VRel ρ H) args cargs.toList) :
    (∃ fn, P.funcs[f]? = some fn ∧ (fn.name == "runtime.NumGoroutine") = false ∧ fn.body.isSome = true) ∧ Calls P f cargs w fun e w' => ∃ cv ρ', e = .returned cv ∧ VRel ρ' r.2 r.1 cv ∧ Step ρ H w ρ' r.2 w' := by
  unfold vcall at h
  split at h
  · rename_i v H1 hc
    cases h
    obtain ⟨h1, h2⟩ := hcall f args (freeze H) v H1 hc
    refine ⟨h1, (h2 ρ w cargs hH.freeze (ha.mono fun _ _ h => h.later later_freeze)).mono ?_⟩
    rintro e w' ⟨cv, ρ', rfl, h3, h4⟩
    obtain ⟨_, h5, h6, h7⟩ := h4.frozen hH
    rw [dropL_eq]
    obtain ⟨ρ'', h8, h9⟩ := gc_rel hH h5 h7 (h3.later h6)
    exact ⟨cv, ρ'', rfl, h8, h9⟩
  · obtain ⟨h1, h2⟩ := hcall f args H r.1 r.2 h
    exact ⟨h1, h2 ρ w cargs hH ha⟩
/-! ### operations -/
def Goes (P : Program) (o : Oper) (a : Act) (w : World) (ρ : Ren) (H : Heap) (v : V) (H' : Heap) : Prop :=
  ∀ (next : Act → World → Prop) (Q : Exit → Act → World → Prop), (∀ cv ρ' w', VRel ρ' H' v cv → Step ρ H w ρ' H' w' → next (a.put o.dst cv) w') → o.wp P a w next Q
theorem goes_val {o : Oper} {v : V} {cv : Value} (h : (execOp a.eval o).run P w = .ok (.value cv) w') (hv : VRel ρ' H' v cv) (hs : Step ρ H w ρ' H' w') : Goes P o a w ρ H v H' := fun next Q k => by
  unfold Oper.wp
  rw [h]
  exact k cv ρ' w' hv hs
theorem goes_pure {o : Oper} {v : V} {s : Sem Value} (ho : execOp a.eval o = (do pure (.value (← s)) : Sem Next)) (hH : HRel ρ H w) (h : ∃ r, s.run P w = .ok r w ∧ VRel ρ H v r) : Goes P o a w ρ H v H := by
  obtain ⟨r, h1, h2⟩ := h
  exact goes_val (by rw [ho]; simp [h1]) h2 (Step.refl hH)
theorem goes_mem {o : Oper} {r : V × Heap} {s : Sem Value} (ho : execOp a.eval o = (do pure (.value (← s)) : Sem Next)) (h : ∃ cv ρ' w', s.run P w = .ok cv w' ∧ VRel ρ' r.2 r.1 cv ∧ Step ρ H w ρ' r.2 w') : Goes P o a w ρ H r.1 r.2 := by
  obtain ⟨cv, ρ', w', h1, h2, h3⟩ := h
  exact goes_val (by rw [ho]; simp [h1]) h2 h3
theorem goes_call {o : Oper} {r : V × Heap} {call : CallF} (hcall : CallOk P call) {f : FuncId} {as : Array Operand} {ts : Array TypeId} (ho : o.op = .call { callee := .value (.func f), args := as, argTypes := ts }) {args : List V} (h : vcall call f args H = some r) (hH : HRel ρ H w)
    (ha : All2 (VRel ρ H) args (as.map a.eval).toList) : Goes P o a w ρ H r.1 r.2 := fun next Q k => by
  obtain ⟨⟨fn, hf, hname, hb⟩, hc⟩ := vcall_rel hcall h hH ha
  have he : (callFunc f (as.map a.eval)).run P w = .ok (.enter f (as.map a.eval)) w := by
    have h1 : fn.name ≠ "runtime.NumGoroutine" := by simpa using hname
    obtain ⟨c, hc⟩ := Option.isSome_iff_exists.1 hb
    simp [callFunc, hf, h1, hc]
  have hrun : (execOp a.eval o).run P w = .ok (.enter f (as.map a.eval)) w := by
    unfold execOp
    simp [ho, resolve, Deferred.ofValue, invoke, Act.eval, he]
  unfold Oper.wp
  rw [hrun]
  refine hc.mono ?_
  rintro e w' ⟨cv, ρ', rfl, h1, h2⟩
  exact k cv ρ' w' h1 h2
end
end Go.Proofs.Ytbfepedjnlcgkaa.Pe
