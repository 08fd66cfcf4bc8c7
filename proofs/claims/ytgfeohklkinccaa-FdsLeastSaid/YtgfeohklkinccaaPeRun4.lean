/- A plain reading of the model's code: calls, operations, regions in order. A plain reading of the model's code: calls and operations. A plain reading of the model's code: one operation; operations in their order. A plain reading of the model's code: operations in their order, guards and all. -/
import Derived.Test.YtgfeohklkinccaaPeMap
set_option linter.unusedVariables false
namespace Go.Proofs.Ytgfeohklkinccaa.Pe
open Go.RowKit
section
variable {P : Program} {T : Tys} {t : TypeId} {ti : TI} {ρ ρ' : Ren} {H H' : Heap} {w w' : World} {a : Act}
/-! ### memory that is only read -/
theorem frz_gb (b : Bk) : b.frz.gb = b.gb := by cases b <;> rfl
theorem frz_wr (b : Bk) : b.frz.wr = false := by cases b <;> rfl
theorem frz_occ (ρ : Ren) (id : Nat) (b : Bk) (g : Nat) : Occ ρ id b.frz g ↔ Occ ρ id b g := by cases b <;> exact Iff.rfl
theorem frz_rel (ρ : Ren) (H : Heap) (id : Nat) (b : Bk) (w : World) : BRel ρ H id b.frz w ↔ BRel ρ H id b w := by cases b <;> exact Iff.rfl
theorem freeze_get (id : Nat) : (freeze H)[id]? = (H[id]?).map Bk.frz := by simp [freeze]
theorem freeze_len : (freeze H).length = H.length := by simp [freeze]
theorem Gb_freeze {id k : Nat} : Gb (freeze H) id k ↔ Gb H id k := by
  constructor
  · rintro ⟨b, hb, hk⟩
    rw [freeze_get] at hb
    cases h : H[id]? with
    | none => simp [h] at hb
    | some b0 =>
      simp [h] at hb
      subst hb
      exact ⟨b0, h, by rw [frz_gb] at hk; exact hk⟩
  · rintro ⟨b, hb, hk⟩
    exact ⟨b.frz, by rw [freeze_get, hb]; rfl, by rw [frz_gb]; exact hk⟩
theorem later_freeze : Later ρ H ρ (freeze H) := ⟨fun _ _ _ => rfl, fun _ _ h => Gb_freeze.2 h⟩
theorem later_unfreeze : Later ρ (freeze H) ρ H := ⟨fun _ _ _ => rfl, fun _ _ h => Gb_freeze.1 h⟩
theorem HRel.freeze (h : HRel ρ H w) : HRel ρ (freeze H) w := by
  refine ⟨fun id b hb => ?_, fun i j bi bj g hij hi hj hw _ _ => ?_⟩
  · rw [freeze_get] at hb
    cases h0 : H[id]? with
    | none => simp [h0] at hb
    | some b0 =>
      simp [h0] at hb
      subst hb
      rw [frz_rel]
      exact (h.blk id b0 h0).later h0 later_freeze
  · rw [freeze_get] at hi
    cases h0 : H[i]? with
    | none => simp [h0] at hi
    | some b0 =>
      simp [h0] at hi
      subst hi
      rw [frz_wr] at hw
      cases hw
/-- What a step over memory that is only read leaves: memory as it was, and new blocks. -/
theorem Step.frozen {H1 : Heap} (hH : HRel ρ H w) (h : Step ρ (Pe.freeze H) w ρ' H1 w') : H1.length ≥ H.length ∧ Step ρ H w ρ' (H ++ H1.drop H.length) w' ∧ Later ρ' H1 ρ' (H ++ H1.drop H.length) ∧ ∀ g, g < w.heap.size → w'.heap[g]? = w.heap[g]? := by
  have hget : ∀ (id : Nat) b, H[id]? = some b → H1[id]? = some b.frz := fun id b hb => by
    obtain ⟨b', h1, _, h3⟩ := h.ext id b.frz (by rw [freeze_get, hb]; rfl)
    rw [h1, h3 (frz_wr b)]
  have hlen : H1.length ≥ H.length := by
    rcases Nat.lt_or_ge H1.length H.length with hlt | hge
    · exfalso
      have := hget H1.length H[H1.length] (by simp [hlt])
      simp at this
    · exact hge
  have hnew : ∀ (id : Nat), H.length ≤ id → (H ++ H1.drop H.length)[id]? = H1[id]? := fun id hid => by
    rw [List.getElem?_append_right hid, List.getElem?_drop]
    congr 1
    omega
  have hold : ∀ (id : Nat), id < H.length → (H ++ H1.drop H.length)[id]? = H[id]? := fun id hid => List.getElem?_append_left hid
  have hl1 : Later ρ' H1 ρ' (H ++ H1.drop H.length) := by
    refine ⟨fun _ _ _ => rfl, fun id k ⟨b, hb, hk⟩ => ?_⟩
    by_cases hid : id < H.length
    · have h0 := hget id H[id] (by simp [hid])
      rw [h0] at hb; cases hb
      exact ⟨H[id], by rw [hold id hid]; simp [hid], by rw [frz_gb] at hk; exact hk⟩
    · exact ⟨b, by rw [hnew id (by omega)]; exact hb, hk⟩
  have hl0 : Later ρ H ρ' (H ++ H1.drop H.length) := by
    refine ⟨fun id k hg => h.agree id k (Gb_freeze.2 hg), fun id k ⟨b, hb, hk⟩ => ⟨b, ?_, hk⟩⟩
    rw [hold id (List.getElem?_eq_some_iff.1 hb).1]; exact hb
  have hsame : ∀ g, g < w.heap.size → w'.heap[g]? = w.heap[g]? := fun g hg => h.keep.block g hg fun id b hb hw _ => by
    rw [freeze_get] at hb
    cases h0 : H[id]? with
    | none => simp [h0] at hb
    | some b0 =>
      simp [h0] at hb
      subst hb
      rw [frz_wr] at hw
      cases hw
  have hocc : ∀ (id : Nat) b g, H[id]? = some b → Occ ρ' id b g → Occ ρ id b g ∧ g < w.heap.size := fun id b g hb ho => by
    have h3 := (Occ.later hb hl0).1 ho
    exact ⟨h3, Occ.lt (hH.blk id b hb) h3⟩
  have hfresh : ∀ (id : Nat) b g, H.length ≤ id → H1[id]? = some b → Occ ρ' id b g → w.heap.size ≤ g := fun id b g hid hb ho => by
    rcases h.occ id b g hb ho with h1 | ⟨b0, h1, _⟩
    · exact h1
    · have := (List.getElem?_eq_some_iff.1 h1).1
      rw [freeze_len] at this
      omega
  have cas : ∀ (id : Nat) b, (H ++ H1.drop H.length)[id]? = some b → (id < H.length ∧ H[id]? = some b) ∨ (H.length ≤ id ∧ H1[id]? = some b) := fun id b hb => by
    by_cases hid : id < H.length
    · exact .inl ⟨hid, by rw [← hold id hid]; exact hb⟩
    · exact .inr ⟨by omega, by rw [← hnew id (by omega)]; exact hb⟩
  refine ⟨hlen, ⟨⟨fun id b hb => ?_, fun i j bi bj g hij hi hj hw h1 h2 => ?_⟩, hl0.agree, fun id b hb => ⟨b, ?_, Nat.le_refl _, fun _ => rfl⟩, ⟨h.keep.os, h.keep.tape, h.keep.output, h.keep.size, fun g hg _ => hsame g hg⟩, fun id b g hb ho => ?_⟩, hl1, hsame⟩
  · rcases cas id b hb with ⟨hid, hb⟩ | ⟨hid, hb⟩
    · exact ((hH.blk id b hb).keep h.keep.size (fun g hg _ => hsame g hg)).later hb hl0
    · exact (h.rel.blk id b hb).later hb hl1
  · rcases cas i bi hi with ⟨di, ki⟩ | ⟨di, ki⟩ <;> rcases cas j bj hj with ⟨dj, kj⟩ | ⟨dj, kj⟩
    · exact hH.dis i j bi bj g hij ki kj hw (hocc i bi g ki h1).1 (hocc j bj g kj h2).1
    · have := (hocc i bi g ki h1).2; have := hfresh j bj g dj kj h2; omega
    · have := (hocc j bj g kj h2).2; have := hfresh i bi g di ki h1; omega
    · exact h.rel.dis i j bi bj g hij ki kj hw h1 h2
  · rw [hold id (List.getElem?_eq_some_iff.1 hb).1]; exact hb
  · rcases cas id b hb with ⟨hid, hb⟩ | ⟨hid, hb⟩
    · exact .inr ⟨b, hb, (hocc id b g hb ho).1⟩
    · exact .inl (hfresh id b g hid hb ho)
/-- Blocks let go. -/
theorem Step.drop {N : Heap} (hH : HRel ρ H w) (h : Step ρ H w ρ' (H ++ N) w') (hw : ∀ (id : Nat) b, H[id]? = some b → BRel ρ' H id b w') : Step ρ H w ρ' H w' := by
  have hold : ∀ (id : Nat) b, H[id]? = some b → (H ++ N)[id]? = some b := fun id b hb => by
    rw [List.getElem?_append_left (List.getElem?_eq_some_iff.1 hb).1]; exact hb
  exact ⟨⟨hw, fun i j bi bj g hij hi hj => h.rel.dis i j bi bj g hij (hold i bi hi) (hold j bj hj)⟩, h.agree, fun id b hb => ⟨b, hb, Nat.le_refl _, fun _ => rfl⟩, h.keep, fun id b g hb ho => h.occ id b g (hold id b hb) ho⟩
end
end Go.Proofs.Ytgfeohklkinccaa.Pe
set_option linter.unusedVariables false
namespace Go.Proofs.Ytgfeohklkinccaa.Pe
open Go.RowKit
section
variable {P : Program} {T : Tys} {t : TypeId} {ti : TI} {ρ ρ' ρ1 ρ2 : Ren} {H H' H1 H2 N : Heap} {w w' : World} {a : Act}
/-! ### values under other names -/
theorem CRel.ren {f : Nat → Nat} {c : C} {v : Value} (h : CRel ρ1 H1 c v) (m : ∀ j, c.ref = some j → ∀ k, Gb H1 j k → Gb H2 (f j) k ∧ ρ2 (f j) k = ρ1 j k) : CRel ρ2 H2 (c.ren f) v := by
  cases c <;> try exact h
  case p id off => obtain ⟨g, ad, e, hv⟩ := h; obtain ⟨m1, m2⟩ := m id rfl _ g; exact ⟨m1, ad, m2.trans e, hv⟩
  case q id off gen => obtain ⟨g, ad, n, c, e, hv⟩ := h; obtain ⟨m1, m2⟩ := m id rfl _ g; exact ⟨m1, ad, n, c, m2.trans e, hv⟩
  case sl id off len gen =>
    obtain ⟨g, hlg, A, c, hv, hl, hf, ha⟩ := h
    obtain ⟨m1, m2⟩ := m id rfl _ g
    refine ⟨m1, hlg, A, c, hv, hl, fun h1 h2 => (hf h1 h2).trans m2.symm, fun h1 => ?_⟩
    obtain ⟨ad, n, c', e, r⟩ := ha h1
    exact ⟨ad, n, c', m2.trans e, r⟩
  case va id off len cap =>
    obtain ⟨g, A, hv, hl, ha⟩ := h
    obtain ⟨m1, m2⟩ := m id rfl _ g
    refine ⟨m1, A, hv, hl, fun h1 => ?_⟩
    obtain ⟨ad, e, r⟩ := ha h1
    exact ⟨ad, m2.trans e, r⟩
  case vr id off len cap gen =>
    obtain ⟨g, A, hv, hl, ha⟩ := h
    obtain ⟨m1, m2⟩ := m id rfl _ g
    refine ⟨m1, A, hv, hl, fun h1 => ?_⟩
    obtain ⟨ad, n, c', e, r⟩ := ha h1
    exact ⟨ad, n, c', m2.trans e, r⟩
  case m id => obtain ⟨g, r, e, hv⟩ := h; obtain ⟨m1, m2⟩ := m id rfl _ g; exact ⟨m1, r, m2.trans e, hv⟩
  case fv f id => obtain ⟨g, r, e, hv⟩ := h; obtain ⟨m1, m2⟩ := m id rfl _ g; exact ⟨m1, r, m2.trans e, hv⟩
theorem ren_un {f : Nat → Nat} {c : C} (h : c ≠ .un) : c.ren f ≠ .un := by cases c <;> simp_all [C.ren]
theorem Cels.ren {f : Nat → Nat} : ∀ {cs : List C} {vs : List Value}, Cels ρ1 H1 cs vs → (∀ j, j ∈ cs.filterMap C.ref → ∀ k, Gb H1 j k → Gb H2 (f j) k ∧ ρ2 (f j) k = ρ1 j k) → Cels ρ2 H2 (cs.map (C.ren f)) vs := by
  intro cs vs h m
  refine ⟨by simp [h.1], fun i x y hx hy => ?_⟩
  rw [List.getElem?_map, Option.map_eq_some_iff] at hx
  obtain ⟨c, hc, rfl⟩ := hx
  obtain ⟨h1, h2⟩ := h.2 i c y hc hy
  exact ⟨ren_un h1, h2.ren fun j hj => m j (List.mem_filterMap.2 ⟨c, List.mem_of_getElem? hc, hj⟩)⟩
theorem V1Rel.ren {f : Nat → Nat} {x : V1} {v : Value} (h : V1Rel ρ1 H1 x v) (m : ∀ j, j ∈ x.refs → ∀ k, Gb H1 j k → Gb H2 (f j) k ∧ ρ2 (f j) k = ρ1 j k) : V1Rel ρ2 H2 (x.ren f) v := by
  cases x with
  | c c => exact CRel.ren h fun j hj => m j (by simp [V1.refs, hj])
  | ag n xs =>
    obtain ⟨vs, h1, h2, h3⟩ := h
    exact ⟨vs, h1, by simpa using h2, h3.ren m⟩
theorem VRel.ren {f : Nat → Nat} {x : V} {v : Value} (h : VRel ρ1 H1 x v) (m : ∀ j, j ∈ x.refs → ∀ k, Gb H1 j k → Gb H2 (f j) k ∧ ρ2 (f j) k = ρ1 j k) : VRel ρ2 H2 (x.ren f) v := by
  cases x with
  | c c => exact CRel.ren h fun j hj => m j (by simp [V.refs, hj])
  | ag n xs =>
    obtain ⟨vs, h1, h2, h3⟩ := h
    exact ⟨vs, h1, by simpa using h2, h3.ren m⟩
  | t xs =>
    obtain ⟨vs, h1, h2⟩ := h
    refine ⟨vs, h1, by simp [h2.1], fun i x y hx hy => ?_⟩
    rw [List.getElem?_map, Option.map_eq_some_iff] at hx
    obtain ⟨c, hc, rfl⟩ := hx
    exact (h2.2 i c y hc hy).ren fun j hj => m j (List.mem_flatMap.2 ⟨c, List.mem_of_getElem? hc, hj⟩)
theorem C.ren_id (c : C) : c.ren (fun j => j) = c := by cases c <;> rfl
theorem V1.ren_id (x : V1) : x.ren (fun j => j) = x := by
  cases x with
  | c c => simp [V1.ren, C.ren_id]
  | ag n xs => simp only [V1.ren, V1.ag.injEq, true_and]; exact (List.map_congr_left fun c _ => C.ren_id c).trans (List.map_id' xs)
theorem V.ren_id (x : V) : x.ren (fun j => j) = x := by
  cases x with
  | c c => simp [V.ren, C.ren_id]
  | ag n xs => simp only [V.ren, V.ag.injEq, true_and]; exact (List.map_congr_left fun c _ => C.ren_id c).trans (List.map_id' xs)
  | t xs => simp only [V.ren, V.t.injEq]; exact (List.map_congr_left fun c _ => V1.ren_id c).trans (List.map_id' xs)
/-- What is left behind a call. -/
theorem gc_rel {v : V} {cv : Value} (hH : HRel ρ H w) (h : Step ρ H w ρ' (H ++ N) w') (hs : ∀ g, g < w.heap.size → w'.heap[g]? = w.heap[g]?) (hv : VRel ρ' (H ++ N) v cv) :
    ∃ ρ'', VRel ρ'' (gc H v N).2 (gc H v N).1 cv ∧ Step ρ H w ρ'' (gc H v N).2 w' := by
  have hB : Below w.heap.size w w' := ⟨h.keep.os, h.keep.tape, h.keep.output, h.keep.size, hs⟩
  have hGb : ∀ j k, j < H.length → Gb (H ++ N) j k → Gb H j k := fun j k hj ⟨b, hb, hk⟩ => ⟨b, by rw [List.getElem?_append_left hj] at hb; exact hb, hk⟩
  have all : ∃ ρ'', VRel ρ'' (H ++ N) v cv ∧ Step ρ H w ρ'' (H ++ N) w' := ⟨ρ', hv, h⟩
  unfold gc
  rw [V.refsQ_eq]
  split
  · rename_i hf
    refine ⟨ρ, ?_, ⟨⟨fun id b hb => (hH.blk id b hb).keep h.keep.size (fun g hg _ => hs g hg), hH.dis⟩, fun _ _ _ => rfl, fun id b hb => ⟨b, hb, Nat.le_refl _, fun _ => rfl⟩, ⟨h.keep.os, h.keep.tape, h.keep.output, h.keep.size, fun g hg _ => hs g hg⟩, fun id b g hb ho => .inr ⟨b, hb, ho⟩⟩⟩
    have := hv.ren (f := fun j => j) (ρ2 := ρ) (H2 := H) fun j hj k hg => by
      have hlt : j < H.length := by
        rcases Nat.lt_or_ge j H.length with h1 | h1
        · exact h1
        · have : j ∈ v.refs.filter (fun id => Nat.ble H.length id) := List.mem_filter.2 ⟨hj, Nat.ble_eq_true_of_le h1⟩
          rw [hf] at this
          cases this
      have hg := hGb j k hlt hg
      exact ⟨hg, (h.agree j k hg).symm⟩
    rw [V.ren_id] at this
    exact this
  · rename_i id hf
    split
    · rename_i wr cs n lo sz e hb
      rw [getL_eq] at hb
      cases hnr : (Bk.row wr cs n lo sz e).cellsNoRef with
      | false => simpa [appL_eq] using all
      | true =>
        simp only [cond_true, appL_eq]
        have hid : H.length ≤ id := by
          have : id ∈ v.refs.filter (fun id => Nat.ble H.length id) := by rw [hf]; exact List.mem_cons_self
          exact ble_nat (List.mem_filter.1 this).2
        have hb' : (H ++ N)[id]? = some (.row wr cs n lo sz e) := by rw [List.getElem?_append_right hid]; exact hb
        obtain ⟨q1, q2, q3, q4⟩ := h.rel.blk id _ hb'
        have hocc : ∀ g, Occ ρ' id (.row wr cs n lo sz e) g → w.heap.size ≤ g := fun g ho => by
          rcases h.occ id _ g hb' ho with h1 | ⟨b0, h1, _⟩
          · exact h1
          · have := (List.getElem?_eq_some_iff.1 h1).1; omega
        refine ⟨turn ρ H.length (ρ' id), hv.ren fun j hj k hg => ?_, step_push hH hB ⟨q1, q2, q3, fun k k1 k2 => ?_⟩ ?_⟩
        · by_cases hlt : j < H.length
          · have hg := hGb j k hlt hg
            have hj2 : (bif Nat.ble (j + 1) H.length then j else H.length) = j := by rw [Nat.ble_eq_true_of_le hlt]; rfl
            rw [hj2]
            exact ⟨(push_later (ρ := ρ) (ρ' id) _).gb _ _ hg, by rw [turn_other _ _ _ (by omega), h.agree j k hg]⟩
          · have hjid : j = id := by
              have : j ∈ v.refs.filter (fun id => Nat.ble H.length id) := List.mem_filter.2 ⟨hj, Nat.ble_eq_true_of_le (by omega)⟩
              rw [hf] at this
              simpa using this
            have hj2 : (bif Nat.ble (j + 1) H.length then j else H.length) = H.length := by
              have : Nat.ble (j + 1) H.length = false := by rw [ble_eq]; simp; omega
              rw [this]; rfl
            rw [hj2, turn_same, hjid]
            rw [hjid] at hg
            obtain ⟨b, h1, h2⟩ := hg
            rw [hb'] at h1
            cases h1
            exact ⟨Gb_push _ _ h2, rfl⟩
        · obtain ⟨xs, r1, r2⟩ := q4 k k1 k2
          refine ⟨xs, ?_, by rw [turn_same]; exact r2⟩
          have hno : ∀ c ∈ cs.take (k * sz), c.ref = none := fun c hc => by
            have := List.all_eq_true.1 hnr c (List.mem_of_mem_take hc)
            simpa using this
          have := Cels.ren (f := fun j => j) (ρ2 := turn ρ H.length (ρ' id)) (H2 := H ++ [.row wr cs n lo sz e]) r1 fun j hj => by
            obtain ⟨c, hc, hcj⟩ := List.mem_filterMap.1 hj
            rw [hno c hc] at hcj
            cases hcj
          rw [(List.map_congr_left fun c _ => C.ren_id c).trans (List.map_id' _)] at this
          exact this
        · intro g ho
          obtain ⟨k, k1, k2, k3⟩ := ho
          rw [turn_same] at k3
          exact hocc g ⟨k, k1, k2, k3⟩
    · simpa [appL_eq] using all
  · simpa [appL_eq] using all
/-! ### calls -/
def CallOk (P : Program) (call : CallF) : Prop := ∀ f args H v H', call f args H = some (v, H') → (∃ fn, P.funcs[f]? = some fn ∧ (fn.name == "runtime.NumGoroutine") = false ∧ fn.body.isSome = true) ∧
  ∀ ρ w (cargs : Array Value), HRel ρ H w → All2 (VRel ρ H) args cargs.toList → Calls P f cargs w fun e w' => ∃ cv ρ', e = .returned cv ∧ VRel ρ' H' v cv ∧ Step ρ H w ρ' H' w'
theorem vcall_rel {call : CallF} (hcall : CallOk P call) {f : FuncId} {args : List V} {r : V × Heap} (h : vcall call f args H = some r) {cargs : Array Value} (hH : HRel ρ H w) (ha : All2 (VRel ρ H) args cargs.toList) :
    (∃ fn, P.funcs[f]? = some fn ∧ (fn.name == "runtime.NumGoroutine") = false ∧ fn.body.isSome = true) ∧ Calls P f cargs w fun e w' => ∃ cv ρ', e = .returned cv ∧ VRel ρ' r.2 r.1 cv ∧ Step ρ H w ρ' r.2 w' := by
  unfold vcall at h
  split at h
  · rename_i v H1 hc
    cases h
    obtain ⟨h1, h2⟩ := hcall f args (freeze H) v H1 hc
    refine ⟨h1, (h2 ρ w cargs hH.freeze (ha.mono fun _ _ h => h.later later_freeze)).mono ?_⟩
    rintro e w' ⟨cv, ρ', rfl, h3, h4⟩
    obtain ⟨_, h5, h6, h7⟩ := h4.frozen hH
    rw [dropL_eq]
    obtain ⟨ρ'', h8, h9⟩ := gc_rel hH h5 h7 (h3.later h6)
    exact ⟨cv, ρ'', rfl, h8, h9⟩
  · obtain ⟨h1, h2⟩ := hcall f args H r.1 r.2 h
    exact ⟨h1, h2 ρ w cargs hH ha⟩
/-! ### operations -/
def Goes (P : Program) (o : Oper) (a : Act) (w : World) (ρ : Ren) (H : Heap) (v : V) (H' : Heap) : Prop :=
  ∀ (next : Act → World → Prop) (Q : Exit → Act → World → Prop), (∀ cv ρ' w', VRel ρ' H' v cv → Step ρ H w ρ' H' w' → next (a.put o.dst cv) w') → o.wp P a w next Q
theorem goes_val {o : Oper} {v : V} {cv : Value} (h : (execOp a.eval o).run P w = .ok (.value cv) w') (hv : VRel ρ' H' v cv) (hs : Step ρ H w ρ' H' w') : Goes P o a w ρ H v H' := fun next Q k => by
  unfold Oper.wp
  rw [h]
  exact k cv ρ' w' hv hs
theorem goes_pure {o : Oper} {v : V} {s : Sem Value} (ho : execOp a.eval o = (do pure (.value (← s)) : Sem Next)) (hH : HRel ρ H w) (h : ∃ r, s.run P w = .ok r w ∧ VRel ρ H v r) : Goes P o a w ρ H v H := by
  obtain ⟨r, h1, h2⟩ := h
  exact goes_val (by rw [ho]; simp [h1]) h2 (Step.refl hH)
theorem goes_mem {o : Oper} {r : V × Heap} {s : Sem Value} (ho : execOp a.eval o = (do pure (.value (← s)) : Sem Next)) (h : ∃ cv ρ' w', s.run P w = .ok cv w' ∧ VRel ρ' r.2 r.1 cv ∧ Step ρ H w ρ' r.2 w') : Goes P o a w ρ H r.1 r.2 := by
  obtain ⟨cv, ρ', w', h1, h2, h3⟩ := h
  exact goes_val (by rw [ho]; simp [h1]) h2 h3
theorem goes_call {o : Oper} {r : V × Heap} {call : CallF} (hcall : CallOk P call) {f : FuncId} {as : Array Operand} {ts : Array TypeId} (ho : o.op = .call { callee := .value (.func f), args := as, argTypes := ts }) {args : List V} (h : vcall call f args H = some r) (hH : HRel ρ H w)
    (ha : All2 (VRel ρ H) args (as.map a.eval).toList) : Goes P o a w ρ H r.1 r.2 := fun next Q k => by
  obtain ⟨⟨fn, hf, hname, hb⟩, hc⟩ := vcall_rel hcall h hH ha
  have he : (callFunc f (as.map a.eval)).run P w = .ok (.enter f (as.map a.eval)) w := by
    have h1 : fn.name ≠ "runtime.NumGoroutine" := by simpa using hname
    obtain ⟨c, hc⟩ := Option.isSome_iff_exists.1 hb
    simp [callFunc, hf, h1, hc]
  have hrun : (execOp a.eval o).run P w = .ok (.enter f (as.map a.eval)) w := by
    unfold execOp
    simp [ho, resolve, Deferred.ofValue, invoke, Act.eval, he]
  unfold Oper.wp
  rw [hrun]
  refine hc.mono ?_
  rintro e w' ⟨cv, ρ', rfl, h1, h2⟩
  exact k cv ρ' w' h1 h2
end
end Go.Proofs.Ytgfeohklkinccaa.Pe
set_option linter.unusedVariables false
namespace Go.Proofs.Ytgfeohklkinccaa.Pe
open Go.RowKit
section
variable {P : Program} {T : Tys} {t : TypeId} {ti : TI} {ρ ρ' : Ren} {H H' : Heap} {w w' : World} {a : Act}
theorem map_some {α β : Type} {o : Option α} {f : α → β} {y : β} (h : o.map f = some y) : ∃ x, o = some x ∧ f x = y := Option.map_eq_some_iff.1 h
theorem all2_one {α β : Type} {R : α → β → Prop} {x : α} {ys : List β} (h : All2 R [x] ys) : ∃ y, ys = [y] ∧ R x y := by
  obtain ⟨y, rfl⟩ := List.length_eq_one_iff.1 h.1.symm
  exact ⟨y, rfl, h.2 0 _ _ rfl rfl⟩
theorem all2_two {α β : Type} {R : α → β → Prop} {x x' : α} {ys : List β} (h : All2 R [x, x'] ys) : ∃ y y', ys = [y, y'] ∧ R x y ∧ R x' y' := by
  have hl := h.1
  match ys, hl with
  | [y, y'], _ => exact ⟨y, y', rfl, h.2 0 _ _ rfl rfl, h.2 1 _ _ rfl rfl⟩
  | [], hl => simp at hl
  | [_], hl => simp at hl
  | _ :: _ :: _ :: _, hl => simp at hl
theorem arr_of_list {α : Type} {as : Array α} {l : List α} (h : as.toList = l) : as = l.toArray := by rw [← h]
/-- What is known of some operands. -/
def Hop (ρ : Ren) (H : Heap) (tm : List V) (a : Act) (l : List Operand) : Prop := ∀ x ∈ l, ∀ v, opnd tm x = some v → VRel ρ H v (a.eval x)
theorem TRel.hop {tm : List V} (ht : TRel ρ H tm a.tmps) (l : List Operand) : Hop ρ H tm a l := fun x _ v h => opnd_rel ht h
theorem ORel_of {tm : List V} {x : Option Operand} {y : Option V} (ht : Hop ρ H tm a x.toList) (h : opndO tm x = some y) : ORel ρ H y (x.map a.eval) := by
  cases x with
  | none => cases h; trivial
  | some x =>
    obtain ⟨v, h1, rfl⟩ := map_some (h : (opnd tm x).map some = some y)
    exact ht x (by simp) v h1
theorem opnds_hop {tm : List V} : ∀ {l : List Operand} {vs : List V}, Hop ρ H tm a l → opnds tm l = some vs → All2 (VRel ρ H) vs (l.map a.eval)
  | [], vs, _, h => by cases h; exact All2.nil
  | x :: l, vs, ht, h => by
    have h2 : (match opnd tm x, opnds tm l with
      | some v, some vs => some (v :: vs)
      | _, _ => none) = some vs := h
    split at h2
    · rename_i v vs' h3 h4
      cases h2
      exact All2.cons (ht x List.mem_cons_self v h3) (opnds_hop (fun y hy => ht y (List.mem_cons_of_mem _ hy)) h4)
    · cases h2
theorem parts_hop {tm : List V} : ∀ {l : List (Nat × Operand)} {vs : List (Nat × V)}, Hop ρ H tm a (l.map (·.2)) → parts tm l = some vs → All2 (fun (x : Nat × V) (y : Nat × Value) => x.1 = y.1 ∧ VRel ρ H x.2 y.2) vs (l.map fun p => (p.1, a.eval p.2))
  | [], vs, _, h => by cases h; exact All2.nil
  | x :: l, vs, ht, h => by
    have h2 : (match opnd tm x.2, parts tm l with
      | some v, some vs => some ((x.1, v) :: vs)
      | _, _ => none) = some vs := h
    split at h2
    · rename_i v vs' h3 h4
      cases h2
      exact All2.cons ⟨rfl, ht x.2 (by simp) v h3⟩ (parts_hop (fun y hy => ht y (by simp only [List.map_cons, List.mem_cons]; exact .inr hy)) h4)
    · cases h2
theorem evOp_goes {call : CallF} (hT : TabOk P T) (hcall : CallOk P call) {o : Oper} {tm : List V} {v : V} (h : evOp T call o.op tm H = some (v, H')) (ht : Hop ρ H tm a o.op.operands.toList) (hH : HRel ρ H w) : Goes P o a w ρ H v H' := by
  unfold evOp at h
  split at h
  · rename_i x ho
    obtain ⟨u, h1, h2⟩ := map_some h; cases h2
    exact goes_val (cv := a.eval x) (by simp [execOp, ho]) (ht _ (by simp [ho, Op.operands]) _ h1) (Step.refl hH)
  · rename_i x ho
    obtain ⟨u, h1, h2⟩ := map_some h; cases h2
    exact goes_val (cv := a.eval x) (by simp [execOp, ho]) (ht _ (by simp [ho, Op.operands]) _ h1) (Step.refl hH)
  · rename_i c x y ho
    split at h
    · rename_i hc
      obtain ⟨u, h1, h2⟩ := map_some h; cases h2
      have hb := ht _ (by simp [ho, Op.operands]) _ hc
      simp only [VRel, CRel] at hb
      exact goes_val (cv := a.eval x) (by simp [execOp, ho, hb, asBool]) (ht _ (by simp [ho, Op.operands]) _ h1) (Step.refl hH)
    · rename_i hc
      obtain ⟨u, h1, h2⟩ := map_some h; cases h2
      have hb := ht _ (by simp [ho, Op.operands]) _ hc
      simp only [VRel, CRel] at hb
      exact goes_val (cv := a.eval y) (by simp [execOp, ho, hb, asBool]) (ht _ (by simp [ho, Op.operands]) _ h1) (Step.refl hH)
    · cases h
  · rename_i fn fs cs ho
    split at h
    · rename_i f x hfs hcs
      split at h
      · rename_i id hx
        cases h
        have hb := ht x (by simp [ho, Op.operands, hcs]) _ hx
        have e1 : fs = #[] := by cases fs; simp at hfs; subst hfs; rfl
        have e2 : cs = #[x] := by cases cs; simp at hcs; subst hcs; rfl
        subst e1 e2
        obtain ⟨g, ad, e, hv⟩ := hb
        have hv0 : a.eval x = .pointer (some ad) := by rw [hv]; cases ad; simp [Addr.add]
        exact goes_val (cv := .func (.func f) #[] #[a.eval x]) (by simp [execOp, ho, Instr.makeFunc]) ⟨g, ad, e, by rw [hv0]⟩ (Step.refl hH)
      · cases h
    · cases h
  · rename_i t ho
    exact goes_mem (r := (v, H')) (by simp [execOp, ho]) (alloc_rel hT hH h)
  · rename_i t x ho
    split at h
    · rename_i u hu
      exact goes_mem (r := (v, H')) (by simp [execOp, ho]) (box_rel (t := t) hH (ht _ (by simp [ho, Op.operands]) _ hu) h)
    · cases h
  · rename_i t ps ho
    split at h
    · rename_i vs hvs
      obtain ⟨u, h1, h2⟩ := map_some h; cases h2
      exact goes_pure (by simp [execOp, ho]) hH (vbuild_rel (qs := ps.map fun p => (p.1, a.eval p.2)) hT h1 (by simpa using parts_hop (fun x hx => ht x (by simp only [ho, Op.operands]; simpa using hx)) hvs))
    · cases h
  · rename_i t n ps ho
    split at h
    · rename_i vs hvs
      exact goes_mem (r := (v, H')) (by simp [execOp, ho]) (vbuildSlice_rel (qs := ps.map fun p => (p.1, a.eval p.2)) hT hH h (by simpa using parts_hop (fun x hx => ht x (by simp only [ho, Op.operands]; simpa using hx)) hvs))
    · cases h
  · rename_i t x ho
    split at h
    · rename_i u hu
      obtain ⟨z, h1, h2⟩ := map_some h; cases h2
      exact goes_pure (by simp [execOp, ho]) hH (vload_rel hT h1 hH (ht _ (by simp [ho, Op.operands]) _ hu))
    · cases h
  · rename_i t x y ho
    split at h
    · rename_i u1 u2 hu1 hu2
      obtain ⟨H2, h1, h2⟩ := map_some h; cases h2
      obtain ⟨w2, h3, h4⟩ := vstore_rel (P := P) hT h1 hH (ht _ (by simp [ho, Op.operands]) _ hu1) (ht _ (by simp [ho, Op.operands]) _ hu2)
      intro next Q k
      unfold Oper.wp
      have hrun : (execOp a.eval o).run P w = .ok .skip w2 := by simp [execOp, ho, h3]
      rw [hrun]
      exact k undef ρ w2 rfl h4
    · cases h
  · rename_i op t x y t2 ho
    split at h
    · rename_i u1 u2 hu1 hu2
      obtain ⟨z, h1, h2⟩ := map_some h; cases h2
      exact goes_pure (by simp [execOp, ho]) hH (vbin_rel (ox := x) (oy := y) hT h1 (ht _ (by simp [ho, Op.operands]) _ hu1) (ht _ (by simp [ho, Op.operands]) _ hu2))
    · cases h
  · rename_i op t x ho
    split at h
    · rename_i u1 hu1
      obtain ⟨z, h1, h2⟩ := map_some h; cases h2
      exact goes_pure (by simp [execOp, ho]) hH (vun_rel h1 (ht _ (by simp [ho, Op.operands]) _ hu1))
    · cases h
  · rename_i s d x ho
    split at h
    · rename_i u1 hu1
      exact goes_mem (r := (v, H')) (by simp [execOp, ho]) (vconvert_rel hT hH h (ht _ (by simp [ho, Op.operands]) _ hu1))
    · cases h
  · rename_i t x ho
    split at h
    · rename_i u1 hu1
      obtain ⟨z, h1, h2⟩ := map_some h; cases h2
      exact goes_pure (by simp [execOp, ho]) hH (vasPtr_rel hT h1 (ht _ (by simp [ho, Op.operands]) _ hu1))
    · cases h
  · rename_i t l c ho
    split at h
    · rename_i u1 u2 hu1 hu2
      exact goes_mem (r := (v, H')) (by simp [execOp, ho]) (vmakeSlice_rel hT hH h (ht _ (by simp [ho, Op.operands]) _ hu1) (ht _ (by simp [ho, Op.operands]) _ hu2))
    · cases h
  · rename_i t x lo hi ho
    split at h
    · rename_i u1 l1 h1 hu1 hl1 hh1
      obtain ⟨z, h1, h2⟩ := map_some h; cases h2
      exact goes_pure (by simp [execOp, ho]) hH (vslice_rel hT h1 (ht _ (by simp [ho, Op.operands]) _ hu1) (ORel_of (fun x hx => ht x (by simp only [ho, Op.operands]; simp at hx ⊢; simp [hx])) hl1) (ORel_of (fun x hx => ht x (by simp only [ho, Op.operands]; simp at hx ⊢; simp [hx])) hh1))
    · cases h
  · rename_i t x f ho
    split at h
    · rename_i u1 hu1
      obtain ⟨z, h1, h2⟩ := map_some h; cases h2
      exact goes_pure (by simp [execOp, ho]) hH (vfieldAddr_rel hT h1 (ht _ (by simp [ho, Op.operands]) _ hu1))
    · cases h
  · rename_i t x f ho
    split at h
    · rename_i u1 hu1
      obtain ⟨z, h1, h2⟩ := map_some h; cases h2
      exact goes_pure (by simp [execOp, ho]) hH (vfield_rel hT h1 (ht _ (by simp [ho, Op.operands]) _ hu1))
    · cases h
  · rename_i t x y ho
    split at h
    · rename_i u1 u2 hu1 hu2
      obtain ⟨z, h1, h2⟩ := map_some h; cases h2
      exact goes_pure (by simp [execOp, ho]) hH (vindexAddr_rel hT h1 (ht _ (by simp [ho, Op.operands]) _ hu1) (ht _ (by simp [ho, Op.operands]) _ hu2))
    · cases h
  · rename_i t x y ho
    split at h
    · rename_i u1 u2 hu1 hu2
      obtain ⟨z, h1, h2⟩ := map_some h; cases h2
      exact goes_pure (by simp [execOp, ho]) hH (vindex_rel hT h1 (ht _ (by simp [ho, Op.operands]) _ hu1) (ht _ (by simp [ho, Op.operands]) _ hu2))
    · cases h
  · rename_i x j ho
    split at h
    · rename_i vs hvs
      obtain ⟨z, h1, h2⟩ := map_some h; cases h2
      rw [getL_eq] at h1
      obtain ⟨us, e1, e2⟩ := ht _ (by simp [ho, Op.operands]) _ hvs
      obtain ⟨u, e3, e4⟩ := e2.get h1
      have e5 : us[j]? = some u := by simpa using e3
      exact goes_val (cv := u) (by simp [execOp, ho, Instr.extract, e1, e5]) e4.toV (Step.refl hH)
    · cases h
  · rename_i f as ts ho
    split at h
    · rename_i vs hvs
      exact goes_call hcall ho h hH (by simpa using opnds_hop (fun x hx => ht x (by simp only [ho, Op.operands, Call.operands]; simp at hx ⊢; exact .inr hx)) hvs)
    · cases h
  · rename_i as ts ho
    split at h
    · rename_i x t hx hts
      obtain ⟨z, h1, h2⟩ := map_some h; cases h2
      obtain ⟨u, e1, e2⟩ := all2_one (opnds_hop (fun x hx => ht x (by simp only [ho, Op.operands, Call.operands]; simpa using hx)) hx)
      have e3 : as.map a.eval = #[u] := by apply Array.ext'; simpa using e1
      have e4 : ts = #[t] := arr_of_list hts
      subst e4
      obtain ⟨r, h3, h4⟩ := vlen_rel (P := P) (w := w) (ty := o.type) hT h1 hH e2
      exact goes_val (cv := r) (by unfold execOp; simp [ho, resolve, invoke, builtin, e3, h3]) h4 (Step.refl hH)
    · cases h
  · rename_i as ts ho
    split at h
    · rename_i s x t t2 hx hts
      obtain ⟨u1, u2, e1, e2, e2'⟩ := all2_two (opnds_hop (fun x hx => ht x (by simp only [ho, Op.operands, Call.operands]; simpa using hx)) hx)
      have e3 : as.map a.eval = #[u1, u2] := by apply Array.ext'; simpa using e1
      have e4 : ts = #[t, t2] := arr_of_list hts
      subst e4
      obtain ⟨cv, ρ', w', h3, h4, h5⟩ := vappend_rel (P := P) (ty := o.type) hT hH h e2 e2'
      exact goes_val (cv := cv) (w' := w') (by unfold execOp; simp [ho, resolve, invoke, builtin, e3, h3]) h4 h5
    · cases h
  · rename_i as ts ho
    split at h
    · rename_i s x t t2 hx hts
      obtain ⟨u1, u2, e1, e2, e2'⟩ := all2_two (opnds_hop (fun x hx => ht x (by simp only [ho, Op.operands, Call.operands]; simpa using hx)) hx)
      have e3 : as.map a.eval = #[u1, u2] := by apply Array.ext'; simpa using e1
      have e4 : ts = #[t, t2] := arr_of_list hts
      subst e4
      obtain ⟨cv, ρ', w', h3, h4, h5⟩ := vcopy_rel (P := P) (t2 := t2) (ty := o.type) hT hH h e2 e2'
      exact goes_val (cv := cv) (w' := w') (by unfold execOp; simp [ho, resolve, invoke, builtin, e3, h3]) h4 h5
    · cases h
  · rename_i as ts ho
    split at h
    · rename_i x r hx
      obtain ⟨z, h1, h2⟩ := map_some h; cases h2
      have e0 := opnds_hop (fun x hx => ht x (by simp only [ho, Op.operands, Call.operands]; simpa using hx)) hx
      cases hm : as.toList.map a.eval with
      | nil => have := e0.1; rw [hm] at this; simp at this
      | cons u us =>
        rw [hm] at e0
        obtain ⟨q, h3, h4⟩ := minC_rel (P := P) (w := w) false h1 (e0.2 0 _ _ rfl rfl) (vs := us) ⟨by simpa using e0.1, fun i x y p q => e0.2 (i + 1) x y (by simpa using p) (by simpa using q)⟩
        have e3 : as.map a.eval = (u :: us).toArray := by apply Array.ext'; simpa using hm
        have h3' : (us.foldlM Builtin.min2 u).run P w = .ok q w := by simpa using h3
        exact goes_val (cv := q) (by unfold execOp; simp [ho, resolve, invoke, builtin, e3, Builtin.min_, h3']) h4 (Step.refl hH)
    · cases h
  · rename_i as ts ho
    split at h
    · rename_i x r hx
      obtain ⟨z, h1, h2⟩ := map_some h; cases h2
      have e0 := opnds_hop (fun x hx => ht x (by simp only [ho, Op.operands, Call.operands]; simpa using hx)) hx
      cases hm : as.toList.map a.eval with
      | nil => have := e0.1; rw [hm] at this; simp at this
      | cons u us =>
        rw [hm] at e0
        obtain ⟨q, h3, h4⟩ := minC_rel (P := P) (w := w) true h1 (e0.2 0 _ _ rfl rfl) (vs := us) ⟨by simpa using e0.1, fun i x y p q => e0.2 (i + 1) x y (by simpa using p) (by simpa using q)⟩
        have e3 : as.map a.eval = (u :: us).toArray := by apply Array.ext'; simpa using hm
        have h3' : (us.foldlM Builtin.max2 u).run P w = .ok q w := by simpa using h3
        exact goes_val (cv := q) (by unfold execOp; simp [ho, resolve, invoke, builtin, e3, Builtin.max_, h3']) h4 (Step.refl hH)
    · cases h
  · rename_i t ho
    cases h
    exact goes_mem (r := (.c (.m H.length), appL H [.mp true []])) (by simp [execOp, ho]) (makeMap_rel (t := t) hH)
  · rename_i t m k ho
    split at h
    · rename_i u1 u2 hu1 hu2
      obtain ⟨z, h1, h2⟩ := map_some h; cases h2
      exact goes_pure (by simp [execOp, ho]) hH (vlookup_rel hT h1 hH (ht _ (by simp [ho, Op.operands]) _ hu1) (ht _ (by simp [ho, Op.operands]) _ hu2))
    · cases h
  · rename_i t m k x ho
    split at h
    · rename_i u1 u2 u3 hu1 hu2 hu3
      obtain ⟨H2, h1, h2⟩ := map_some h; cases h2
      obtain ⟨w2, h3, h4⟩ := vmapUpd_rel (P := P) hT h1 hH (ht _ (by simp [ho, Op.operands]) _ hu1) (ht _ (by simp [ho, Op.operands]) _ hu2) (ht _ (by simp [ho, Op.operands]) _ hu3)
      intro next Q k
      unfold Oper.wp
      have hrun : (execOp a.eval o).run P w = .ok .skip w2 := by simp [execOp, ho, h3]
      rw [hrun]
      exact k undef ρ w2 rfl h4
    · cases h
  · rename_i x ho
    split at h
    · rename_i id off hu1
      cases h
      have hr := ht _ (by simp [ho, Op.operands]) _ hu1
      obtain ⟨ad, e⟩ : ∃ ad, a.eval x = .pointer (some ad) := by
        obtain ⟨_, ad, _, e⟩ := hr
        exact ⟨_, e⟩
      exact goes_pure (s := pure (a.eval x)) (by simp [execOp, ho, e]) hH ⟨_, by simp, hr⟩
    · rename_i id off g hu1
      cases h
      have hr := ht _ (by simp [ho, Op.operands]) _ hu1
      obtain ⟨ad, e⟩ : ∃ ad, a.eval x = .pointer (some ad) := by
        obtain ⟨_, ad, n0, c0, _, e⟩ := hr
        exact ⟨_, e⟩
      exact goes_pure (s := pure (a.eval x)) (by simp [execOp, ho, e]) hH ⟨_, by simp, hr⟩
    · cases h
  · cases h
end
end Go.Proofs.Ytgfeohklkinccaa.Pe
set_option linter.unusedVariables false
namespace Go.Proofs.Ytgfeohklkinccaa.Pe
open Go.RowKit
section
variable {P : Program} {T : Tys} {t : TypeId} {ti : TI} {ρ ρ' : Ren} {H H' : Heap} {w w' : World} {a : Act}
theorem TRel.at_ {tm : List V} {tmps : Array Value} (h : TRel ρ H tm tmps) {d : Nat} {x : V} (hx : tm[d]? = some x) : ∃ v, tmps[d]? = some v ∧ VRel ρ H x v := by
  have hd : d < tmps.size := by rw [← h.len]; exact (List.getElem?_eq_some_iff.1 hx).1
  exact ⟨tmps[d], by simp [hd], by have := h.val d x hx; simpa [hd] using this⟩
theorem wanted_rel' {ops : List Oper} {o : Oper} {tm : List V} {b : Bool} (ht : ∀ j want d x, o.guard = some (j, want) → gdst ops j = some d → tm[d]? = some x → ∃ v, a.tmps[d]? = some v ∧ VRel ρ H x v) (h : wantedE ops o tm = some b) : Region.wanted o (yielded ops.toArray a.tmps) = b := by
  unfold wantedE at h
  split at h
  · rename_i hg
    cases h
    simp [Region.wanted, hg]
  · rename_i j want hg
    split at h
    · rename_i d hd
      have hdj : (ops.toArray[j]?).bind (·.dst) = some d := by
        have hd2 := hd
        unfold gdst at hd2
        rw [getL_eq] at hd2
        simp only [List.getElem?_toArray]
        cases hq : ops[j]? with
        | none => simp [hq] at hd2
        | some o2 => simpa [hq] using hd2
      split at h
      · rename_i x hx
        cases h
        rw [getL_eq] at hx
        obtain ⟨v, h1, h2⟩ := ht j want d _ hg hd hx
        simp only [VRel, CRel] at h2
        subst h2
        simp only [Region.wanted, hg, yielded, hdj, Option.bind_some, h1]
        cases x <;> cases want <;> rfl
      · rename_i hx
        cases h
        rw [getL_eq] at hx
        obtain ⟨v, h1, h2⟩ := ht j want d _ hg hd hx
        simp only [VRel, CRel] at h2
        subst h2
        simp only [Region.wanted, hg, yielded, hdj, Option.bind_some, h1, undef]
        rfl
      · cases h
    · cases h
theorem wanted_rel {ops : List Oper} {o : Oper} {tm : List V} {b : Bool} (ht : TRel ρ H tm a.tmps) (h : wantedE ops o tm = some b) : Region.wanted o (yielded ops.toArray a.tmps) = b :=
  wanted_rel' (fun _ _ _ _ _ _ hx => ht.at_ hx) h
theorem TRel.later {tm : List V} {tmps : Array Value} (h : TRel ρ H tm tmps) (l : Later ρ H ρ' H') : TRel ρ' H' tm tmps := ⟨h.len, fun t x hx => (h.val t x hx).later l⟩
theorem TRel.put {tm tm' : List V} {dst : Option Tmp} {v : V} {cv : Value} (h : TRel ρ H tm a.tmps) (hp : putT tm dst v = some tm') (hv : VRel ρ H v cv) : TRel ρ H tm' (a.put dst cv).tmps := by
  cases dst with
  | none => cases hp; exact h
  | some d =>
    obtain ⟨h1, h2⟩ := setL_some _ _ _ _ hp
    subst h1
    refine ⟨by simpa [Act.put] using h.len, fun t x hx => ?_⟩
    rw [List.getElem?_set] at hx
    split at hx
    · rename_i e
      subst e
      have hx : v = x := by simpa [h2] using hx
      subst hx
      have : d < a.tmps.size := by rw [← h.len]; exact h2
      simpa [Act.put, this] using hv
    · rename_i e
      have hd := h.val t x hx
      simpa [Act.put, Array.getElem?_setIfInBounds, e] using hd
theorem put_defers (a : Act) (d : Option Tmp) (v : Value) : (a.put d v).defers = a.defers := by cases d <;> rfl
/-- One operation of a region, in its turn. -/
theorem evStep_goes {call : CallF} (hT : TabOk P T) (hcall : CallOk P call) {ops : List Oper} {i : Nat} {o : Oper} {tm tm' : List V} {v : V} (hi : ops[i]? = some o) (h : evStep T call ops o tm H = some (v, H')) (hp : putT tm o.dst v = some tm') (ht : TRel ρ H tm a.tmps) (hH : HRel ρ H w)
    {K : Act → World → Prop} {Q : Exit → Act → World → Prop} (k : ∀ a' ρ' w', TRel ρ' H' tm' a'.tmps → a'.defers = a.defers → Step ρ H w ρ' H' w' → K a' w') : wpOp P ops.toArray Q i K a w := by
  have hi' : ops.toArray[i]? = some o := by simpa using hi
  unfold wpOp
  simp only [hi']
  unfold evStep at h
  split at h
  · rename_i hw
    rw [wanted_rel ht hw]
    simp only [if_true]
    refine .inl (evOp_goes hT hcall h (ht.hop _) hH K Q fun cv ρ' w' h1 h2 => k _ ρ' w' ?_ (put_defers _ _ _) h2)
    exact (ht.later h2.later).put hp h1
  · rename_i hw
    rw [wanted_rel ht hw]
    cases h
    exact k _ ρ w (ht.put hp rfl) (put_defers _ _ _) (Step.refl hH)
  · cases h
theorem evSeq_cons {call : CallF} {ops : List Oper} {o : Oper} {l : List Oper} {tm : List V} : evSeq T call ops (o :: l) tm H = (match evStep T call ops o tm H with
      | some (v, H') => match putT tm o.dst v with
        | some tm' => evSeq T call ops l tm' H'
        | none => none
      | none => none) := by
  show (match evStep T call ops o tm H with
      | some (v, H') => forceV v fun v => match putT tm o.dst v with
        | some tm' => evSeq T call ops l tm' H'
        | none => none
      | none => none) = _
  split <;> simp only [forceV_eq]
theorem drop_cons {α : Type} {ops : List α} {k : Nat} {o : α} {l : List α} (h : ops.drop k = o :: l) : ops[k]? = some o ∧ ops.drop (k + 1) = l := by
  have h1 : ops[k]? = some o := by
    have := congrArg (fun x => x[0]?) h
    simpa [List.getElem?_drop] using this
  refine ⟨h1, ?_⟩
  rw [← List.drop_drop, h]
  rfl
theorem evSeq_goes {call : CallF} (hT : TabOk P T) (hcall : CallOk P call) {ops : List Oper} {Q : Exit → Act → World → Prop} : ∀ (l : List Oper) (k : Nat) {tm tm' : List V} {H H' : Heap} {ρ : Ren} {w : World} {a : Act}, ops.drop k = l → evSeq T call ops l tm H = some (tm', H') → TRel ρ H tm a.tmps → HRel ρ H w →
    (∀ a' ρ' w', TRel ρ' H' tm' a'.tmps → a'.defers = a.defers → Step ρ H w ρ' H' w' → Q .normal a' w') → wpOps P ops.toArray Q (List.range' k l.length) a w
  | [], k, tm, tm', H, H', ρ, w, a, hl, h, ht, hH, hQ => by
    cases h
    exact hQ a ρ w ht rfl (Step.refl hH)
  | o :: l, k, tm, tm', H, H', ρ, w, a, hl, h, ht, hH, hQ => by
    obtain ⟨h1, h2⟩ := drop_cons hl
    rw [evSeq_cons] at h
    split at h
    · rename_i v H1 hs
      split at h
      · rename_i tm1 hp
        rw [List.length_cons, List.range'_succ, wpOps_cons]
        refine evStep_goes hT hcall h1 hs hp ht hH fun a1 ρ1 w1 t1 d1 s1 => ?_
        exact evSeq_goes hT hcall l (k + 1) h2 h t1 s1.rel fun a' ρ' w' t' d' s' => hQ a' ρ' w' t' (d'.trans d1) (s1.trans s')
      · cases h
    · cases h
/-- A region in its order. -/
theorem region_goes {call : CallF} (hT : TabOk P T) (hcall : CallOk P call) {ops : Array Oper} {id : Nat} {Q : Exit → Act → World → Prop} {tm tm' : List V} (h : evSeq T call ops.toList ops.toList tm H = some (tm', H')) (ht : TRel ρ H tm a.tmps) (hH : HRel ρ H w)
    (hQ : ∀ a' ρ' w', TRel ρ' H' tm' a'.tmps → a'.defers = a.defers → Step ρ H w ρ' H' w' → Q .normal a' w') : (Code.region id ops false).wp P Q a w := by
  refine wp_region ?_
  have := evSeq_goes (P := P) hT hcall (ops := ops.toList) (Q := Q) ops.toList 0 rfl h ht hH hQ
  rw [← List.range_eq_range'] at this
  simpa using this
end
end Go.Proofs.Ytgfeohklkinccaa.Pe
