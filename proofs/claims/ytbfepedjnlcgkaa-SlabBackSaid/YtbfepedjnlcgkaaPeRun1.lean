/- A plain reading of the model's code: calls, operations, regions in order. -/
import Derived.Test.YtbfepedjnlcgkaaPeMap
set_option linter.unusedVariables false
namespace Go.Proofs.Ytbfepedjnlcgkaa.Pe
open Go.RowKit
section
variable {P : Program} {T : Tys} {t : TypeId} {ti : TI} {ρ ρ' : Ren} {H H' : Heap} {w w' : World} {a : Act}
/-! ### memory that is only read -/
theorem frz_gb (b : Bk) : b.frz.gb = b.gb := by cases b <;> rfl
theorem frz_wr (b : Bk) : b.frz.wr = false := by cases b <;> rfl
theorem frz_occ (ρ : Ren) (id : Nat) (b : Bk) (g : Nat) : Occ ρ id b.frz g ↔ Occ ρ id b g := by cases b <;> exact Iff.rfl
theorem frz_rel (ρ : Ren) (H : Heap) (id : Nat) (b : Bk) (w : World) : BRel ρ H id b.frz w ↔ BRel ρ H id b w := by cases b <;> exact Iff.rfl
theorem freeze_get (id : Nat) : (freeze H)[id]? = (H[id]?).map Bk.frz := by simp [freeze]
theorem freeze_len : (freeze H).length = H.length := by simp [freeze]
theorem Gb_freeze {id k : Nat} : Gb (freeze H) id k ↔ Gb H id k := by
  constructor
  · rintro ⟨b, hb, hk⟩
    rw [freeze_get] at hb
    cases h : H[id]? with
    | none => simp [h] at hb
    | some b0 =>
      simp [h] at hb
      subst hb
      exact ⟨b0, h, by rw [frz_gb] at hk; exact hk⟩
  · rintro ⟨b, hb, hk⟩
    exact ⟨b.frz, by rw [freeze_get, hb]; rfl, by rw [frz_gb]; exact hk⟩
theorem later_freeze : Later ρ H ρ (freeze H) := ⟨fun _ _ _ => rfl, fun _ _ h => Gb_freeze.2 h⟩
theorem later_unfreeze : Later ρ (freeze H) ρ H := ⟨fun _ _ _ => rfl, fun _ _ h => Gb_freeze.1 h⟩
theorem HRel.freeze (h : HRel ρ H w) : HRel ρ (freeze H) w := by
  refine ⟨fun id b hb => ?_, fun i j bi bj g hij hi hj hw _ _ => ?_⟩
  · rw [freeze_get] at hb
    cases h0 : H[id]? with
    | none => simp [h0] at hb
    | some b0 =>
      simp [h0] at hb
      subst hb
      rw [frz_rel]
      exact (h.blk id b0 h0).later h0 later_freeze
  · rw [freeze_get] at hi
    cases h0 : H[i]? with
    | none => simp [h0] at hi
    | some b0 =>
      simp [h0] at hi
      subst hi
      rw [frz_wr] at hw
      cases hw
/-- What a step over memory that is only read leaves: memory as it was, and new blocks. -/
theorem Step.frozen {H1 : Heap} (hH : HRel ρ H w) (h : Step ρ (Pe.freeze H) w ρ' H1 w') : H1.length ≥ H.length ∧ Step ρ H w ρ' (H ++ H1.drop H.length) w' ∧ Later ρ' H1 ρ' (H ++ H1.drop H.length) ∧ ∀ g, g < w.heap.size → w'.heap[g]? = w.heap[g]? := by
  have hget : ∀ (id : Nat) b, H[id]? = some b → H1[id]? = some b.frz := fun id b hb => by
    obtain ⟨b', h1, _, h3⟩ := h.ext id b.frz (by rw [freeze_get, hb]; rfl)
    rw [h1, h3 (frz_wr b)]
  have hlen : H1.length ≥ H.length := by
    rcases Nat.lt_or_ge H1.length H.length with hlt | hge
    · exfalso
      have := hget H1.length H[H1.length] (by simp [hlt])
      simp at this
    · exact hge
  have hnew : ∀ (id : Nat), H.length ≤ id → (H ++ H1.drop H.length)[id]? = H1[id]? := fun id hid => by
    rw [List.getElem?_append_right hid, List.getElem?_drop]
    congr 1
    omega
  have hold : ∀ (id : Nat), id < H.length → (H ++ H1.drop H.length)[id]? = H[id]? := fun id hid => List.getElem?_append_left hid
  have hl1 : Later ρ' H1 ρ' (H ++ H1.drop H.length) := by
    refine ⟨fun _ _ _ => rfl, fun id k ⟨b, hb, hk⟩ => ?_⟩
    by_cases hid : id < H.length
    · have h0 := hget id H[id] (by simp [hid])
      rw [h0] at hb; cases hb
      exact ⟨H[id], by rw [hold id hid]; simp [hid], by rw [frz_gb] at hk; exact hk⟩
    · exact ⟨b, by rw [hnew id (by omega)]; exact hb, hk⟩
  have hl0 : Later ρ H ρ' (H ++ H1.drop H.length) := by
    refine ⟨fun id k hg => h.agree id k (Gb_freeze.2 hg), fun id k ⟨b, hb, hk⟩ => ⟨b, ?_, hk⟩⟩
    rw [hold id (List.getElem?_eq_some_iff.1 hb).1]; exact hb
  have hsame : ∀ g, g < w.heap.size → w'.heap[g]? = w.heap[g]? := fun g hg => h.keep.block g hg fun id b hb hw _ => by
    rw [freeze_get] at hb
    cases h0 : H[id]? with
    | none => simp [h0] at hb
    | some b0 =>
      simp [h0] at hb
      subst hb
      rw [frz_wr] at hw
      cases hw
  have hocc : ∀ (id : Nat) b g, H[id]? = some b → Occ ρ' id b g → Occ ρ id b g ∧ g < w.heap.size := fun id b g hb ho => by
    have h3 := (Occ.later hb hl0).1 ho
    exact ⟨h3, Occ.lt (hH.blk id b hb) h3⟩
  have hfresh : ∀ (id : Nat) b g, H.length ≤ id → H1[id]? = some b → Occ ρ' id b g → w.heap.size ≤ g := fun id b g hid hb ho => by
    rcases h.occ id b g hb ho with h1 | ⟨b0, h1, _⟩
    · exact h1
    · have := (List.getElem?_eq_some_iff.1 h1).1
      rw [freeze_len] at this
      omega
  have cas : ∀ (id : Nat) b, (H ++ H1.drop H.length)[id]? = some b → (id < H.length ∧ H[id]? = some b) ∨ (H.length ≤ id ∧ H1[id]? = some b) := fun id b hb => by
    by_cases hid : id < H.length
    · exact .inl ⟨hid, by rw [← hold id hid]; exact hb⟩
    · exact .inr ⟨by omega, by rw [← hnew id (by omega)]; exact hb⟩
  refine ⟨hlen, ⟨⟨fun id b hb => ?_, fun i j bi bj g hij hi hj hw h1 h2 => ?_⟩, hl0.agree, fun id b hb => ⟨b, ?_, Nat.le_refl _, fun _ => rfl⟩, ⟨h.keep.os, h.keep.tape, h.keep.output, h.keep.size, fun g hg _ => hsame g hg⟩, fun id b g hb ho => ?_⟩, hl1, hsame⟩
  · rcases cas id b hb with ⟨hid, hb⟩ | ⟨hid, hb⟩
    · exact ((hH.blk id b hb).keep h.keep.size (fun g hg _ => hsame g hg)).later hb hl0
    · exact (h.rel.blk id b hb).later hb hl1
  · rcases cas i bi hi with ⟨di, ki⟩ | ⟨di, ki⟩ <;> rcases cas j bj hj with ⟨dj, kj⟩ | ⟨dj, kj⟩
    · exact hH.dis i j bi bj g hij ki kj hw (hocc i bi g ki h1).1 (hocc j bj g kj h2).1
    · have := (hocc i bi g ki h1).2; have := hfresh j bj g dj kj h2; omega
    · have := (hocc j bj g kj h2).2; have := hfresh i bi g di ki h1; omega
    · exact h.rel.dis i j bi bj g hij ki kj hw h1 h2
  · rw [hold id (List.getElem?_eq_some_iff.1 hb).1]; exact hb
  · rcases cas id b hb with ⟨hid, hb⟩ | ⟨hid, hb⟩
    · exact .inr ⟨b, hb, (hocc id b g hb ho).1⟩
    · exact .inl (hfresh id b g hid hb ho)
/-- Blocks let go. -/
theorem Step.drop {N : Heap} (hH : HRel ρ H w) (h : Step ρ H w ρ' (H ++ N) w') (hw : ∀ (id : Nat) b, H[id]? = some b → BRel ρ' H id b w') : Step ρ H w ρ' H w' := by
  have hold : ∀ (id : Nat) b, H[id]? = some b → (H ++ N)[id]? = some b := fun id b hb => by
    rw [List.getElem?_append_left (List.getElem?_eq_some_iff.1 hb).1]; exact hb
  exact ⟨⟨hw, fun i j bi bj g hij hi hj => h.rel.dis i j bi bj g hij (hold i bi hi) (hold j bj hj)⟩, h.agree, fun id b hb => ⟨b, hb, Nat.le_refl _, fun _ => rfl⟩, h.keep, fun id b g hb ho => h.occ id b g (hold id b hb) ho⟩
end
end Go.Proofs.Ytbfepedjnlcgkaa.Pe
