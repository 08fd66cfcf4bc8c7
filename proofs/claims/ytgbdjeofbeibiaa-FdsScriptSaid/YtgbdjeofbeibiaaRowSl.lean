/- From a row's slices to the plain reading's memory. -/
import Derived.Test.YtgbdjeofbeibiaaLeaf
set_option linter.unusedVariables false
namespace Go.Proofs.Ytgbdjeofbeibiaa.Pe
open Go.RowKit Go.Proofs.Ytgbdjeofbeibiaa.B
theorem add_zero_ (ad : Addr) : ad.add 0 = ad := by cases ad; simp [Addr.add]
theorem brel_ror {ρ : Ren} {H : Heap} {id : Nat} {w : World} {k : IntKind} {A : Option Addr} {cap : Nat} {l : List Int} (h : RdN w k A l) (hc : l.length ≤ cap) (hl : l.length ≤ 140737488355328) (hr : ρ id l.length = .slice A l.length cap) : BRel ρ H id (.ror (l.map (C.i k)) l.length 1) w := by
  refine ⟨by simp, hl, A, cap, hr, hc, fun hn => ?_⟩
  obtain ⟨ad, rfl, hcell⟩ := h.2 hn
  refine ⟨ad, l.map (Value.int k), rfl, ⟨by simp, fun i x y hx hy => ?_⟩, fun j u hu => ?_, World.block_lt_of_cell? w _ (hcell 0 hn)⟩
  · rw [List.getElem?_map] at hx hy
    cases e : l[i]? with
    | none => rw [e] at hx; cases hx
    | some z =>
      rw [e] at hx hy
      cases hx; cases hy
      exact ⟨by simp, rfl⟩
  · rw [List.getElem?_map] at hu
    cases e : l[j]? with
    | none => rw [e] at hu; cases hu
    | some z =>
      rw [e] at hu
      cases hu
      have hj := (List.getElem?_eq_some_iff.1 e).1
      rw [hcell j hj]
      simp [List.getD_eq_getElem?_getD, e]
theorem vrel_sl {ρ : Ren} {H : Heap} {id : Nat} {k : IntKind} {A : Option Addr} {cap : Nat} {l : List Int} {w : World} (h : RdN w k A l) (hH : H[id]? = some (.ror (l.map (C.i k)) l.length 1)) (hc : l.length ≤ cap) (hr : ρ id l.length = .slice A l.length cap) : VRel ρ H (.c (.sl id 0 l.length l.length)) (.slice A l.length cap) := by
  refine ⟨⟨_, hH, Nat.lt_succ_self _⟩, Nat.le_refl _, A, cap, rfl, hc, fun _ _ => hr.symm, fun hn => ?_⟩
  obtain ⟨ad, rfl, _⟩ := h.2 hn
  exact ⟨ad, _, _, hr, by rw [add_zero_]⟩
theorem u8_list : ∀ (l : List Int), (∀ x ∈ l, (Lit.int .u8 x).wf = true) → ∃ p : List UInt8, l.map (C.i .u8) = bytesC p ∧ p.length = l.length
  | [], _ => ⟨[], rfl, rfl⟩
  | x :: l, h => by
    obtain ⟨p, h1, h2⟩ := u8_list l fun y hy => h y (List.mem_cons_of_mem _ hy)
    obtain ⟨c, rfl⟩ := wf_u8 (h x List.mem_cons_self)
    exact ⟨c :: p, by rw [List.map_cons, h1]; rfl, by simp [h2]⟩
/-- What is read of a slice among a row's arguments. -/
structure Sl8 (w : World) (A : Option Addr) (cap n : Nat) (p : List UInt8) : Prop where
  len : p.length = n
  lim : n ≤ 140737488351232
  rel : ∀ (ρ : Ren) (H : Heap) (id : Nat), ρ id n = .slice A n cap → BRel ρ H id (.ror (bytesC p) n 1) w
  val : ∀ (ρ : Ren) (H : Heap) (id : Nat), ρ id n = .slice A n cap → H[id]? = some (.ror (bytesC p) n 1) → VRel ρ H (.c (.sl id 0 n n)) (.slice A n cap)
theorem sl8_of {w : World} {A : Option Addr} {cap : Nat} {l : List Int} (h : RdN w .u8 A l) (hc : l.length ≤ cap) (hw : ∀ x ∈ l, (Lit.int .u8 x).wf = true) (hm : l.length * 1 ≤ 140737488351232) : ∃ p, Sl8 w A cap l.length p := by
  obtain ⟨p, h1, h2⟩ := u8_list l hw
  refine ⟨p, h2, by omega, fun ρ H id hr => ?_, fun ρ H id hr hH => ?_⟩
  · rw [← h1]; exact brel_ror h hc (by omega) hr
  · rw [← h1] at hH; exact vrel_sl h hH hc hr
def rhoL (vs : List Value) : Ren := fun id _ => vs.getD id undef
theorem hrel_one {ρ : Ren} {w : World} {b0 : Bk} (h0 : BRel ρ [b0] 0 b0 w) (n0 : b0.wr = false) : HRel ρ [b0] w ∧ ∀ (id : Nat) b, ([b0] : Heap)[id]? = some b → b.wr = false := by
  have hn : ∀ (id : Nat) b, ([b0] : Heap)[id]? = some b → b.wr = false := fun id b hb => by
    match id, hb with
    | 0, hb => simp at hb; subst hb; exact n0
    | k + 1, hb => simp at hb
  refine ⟨⟨fun id b hb => ?_, fun i j bi bj g _ hb _ hw => by rw [hn i bi hb] at hw; cases hw⟩, hn⟩
  match id, hb with
  | 0, hb => simp at hb; subst hb; exact h0
  | k + 1, hb => simp at hb
theorem hrel_two {ρ : Ren} {w : World} {b0 b1 : Bk} (h0 : BRel ρ [b0, b1] 0 b0 w) (h1 : BRel ρ [b0, b1] 1 b1 w) (n0 : b0.wr = false) (n1 : b1.wr = false) : HRel ρ [b0, b1] w ∧ ∀ (id : Nat) b, ([b0, b1] : Heap)[id]? = some b → b.wr = false := by
  have hn : ∀ (id : Nat) b, ([b0, b1] : Heap)[id]? = some b → b.wr = false := fun id b hb => by
    match id, hb with
    | 0, hb => simp at hb; subst hb; exact n0
    | 1, hb => simp at hb; subst hb; exact n1
    | k + 2, hb => simp at hb
  refine ⟨⟨fun id b hb => ?_, fun i j bi bj g _ hb _ hw => by rw [hn i bi hb] at hw; cases hw⟩, hn⟩
  match id, hb with
  | 0, hb => simp at hb; subst hb; exact h0
  | 1, hb => simp at hb; subst hb; exact h1
  | k + 2, hb => simp at hb
end Go.Proofs.Ytgbdjeofbeibiaa.Pe
