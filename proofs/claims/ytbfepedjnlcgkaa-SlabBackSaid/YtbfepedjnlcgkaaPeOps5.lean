/- A plain reading of the model's code: stores, appends, copies. -/
import Derived.Test.YtbfepedjnlcgkaaPeOps4
set_option linter.unusedVariables false
namespace Go.Proofs.Ytbfepedjnlcgkaa.Pe
open Go.RowKit
open Go.Proofs.Ytbfepedjnlcgkaa.B (run_append_keep own_prefix lt_of_blk add_at)
section
variable {P : Program} {T : Tys} {t : TypeId} {ti : TI} {ρ : Ren} {H : Heap} {w w' : World} {a : Act}
theorem take_splice {α : Type} (xs ys : List α) (o m : Nat) (h : o + ys.length ≤ m) (hm : m ≤ xs.length) : (xs.take o ++ ys ++ xs.drop (o + ys.length)).take m = (xs.take m).take o ++ ys ++ (xs.take m).drop (o + ys.length) := by
  have h1 : (xs.take o ++ ys).length = o + ys.length := by simp; omega
  rw [List.take_append, List.take_of_length_le (by omega), h1, List.take_take, Nat.min_eq_left (by omega), List.drop_take]
/-- Cells written at a place. -/
theorem wrAt_rel {x : C} {n : Nat} {ys : List C} {H' : Heap} {v : Value} {vs : List Value} (h : wrAt H x n ys = some H') (hH : HRel ρ H w) (hv : CRel ρ H x v) (hy : Cels ρ H ys vs) (hl : ys.length = n) :
    ∃ ad w', v = .pointer (some ad) ∧ (storeCells ad vs).run P w = .ok () w' ∧ Step ρ H w ρ H' w' := by
  have hvl : vs.length = n := hy.1.symm.trans hl
  cases x <;> simp only [wrAt, reduceCtorEq, getL_eq] at h
  case p id off =>
    obtain ⟨_, ad, e, rfl⟩ := hv
    split at h
    · rename_i m cells hb
      split at h
      · rename_i cs' hs
        obtain ⟨h', hlt⟩ := setL_some _ _ _ _ h
        subst h'
        obtain ⟨hm, g, ty, cur, h1, h2, h3⟩ := hH.blk _ _ hb
        rw [e] at h1
        injection h1 with h1; injection h1 with h1
        subst h1
        obtain ⟨s1, s2, s3⟩ := splice_some hs hm hl
        have hc : cur.size = m := by have := h3.1; rw [hm] at this; simpa using this.symm
        have hrun := run_storeCells_at P g off ty vs 0 cur w h2 (by omega) hy.ones
        simp only [Nat.add_zero] at hrun
        refine ⟨_, _, rfl, by rw [add_at, Nat.zero_add]; exact hrun, ?_⟩
        have hst := step_set (b1 := .var true m cs') (rv := ρ id) (w' := w.setRow g (cur.toList.take off ++ vs ++ cur.toList.drop (off + vs.length)).toArray) hH hb rfl (Nat.le_refl _) (fun _ _ => rfl) rfl rfl rfl (by simp [World.setRow]) (fun g' _ hn => setRow_other w g g' _ (fun e' => hn ⟨0, by rw [e, e']⟩)) ?_ ?_
        · rw [turn_self] at hst
          exact hst
        · rw [turn_self]
          have hlater : Later ρ H ρ (H.set id (.var true m cs')) := ⟨fun _ _ _ => rfl, fun i k ⟨b, kb, kk⟩ => by
            by_cases ei : i = id
            · subst ei
              rw [hb] at kb; cases kb
              exact ⟨.var true m cs', by simp [hlt], kk⟩
            · exact ⟨b, by rw [List.getElem?_set_ne (fun h => ei h.symm)]; exact kb, kk⟩⟩
          refine ⟨s3, g, ty, _, e, setRow_heap w g _ _ ty _ h2, ?_⟩
          rw [hvl]
          exact (Cels.splice hs hm hl h3 hy).later hlater
        · intro g' ho
          rw [turn_self] at ho
          exact .inr ho
      · cases h
    · cases h
  case q id off gen =>
    obtain ⟨hgb, ad, k0, c, e, rfl⟩ := hv
    split at h
    · rename_i cells k lo sz ty hb
      obtain ⟨hg, h⟩ := bif_some h
      have hg := beq_nat hg
      subst hg
      split at h
      · rename_i cs' hs
        obtain ⟨h', hlt⟩ := setL_some _ _ _ _ h
        subst h'
        obtain ⟨hsz, hm, ⟨hn, hlo⟩, hall⟩ := hH.blk _ _ hb
        obtain ⟨xs, h3, h4, h5⟩ := hall gen hlo (Nat.le_refl _)
        rw [← hm, List.take_length] at h3
        obtain ⟨s1, s2, s3⟩ := splice_some hs hm hl
        rcases h5 with ⟨h5, _⟩ | ⟨g, cap, cur, h5, hbg, hgg, hnc, hcm, hcs, htake⟩
        · rw [e] at h5; cases h5
        · have e2 := h5
          rw [e] at h5
          injection h5 with h5 _ _
          injection h5 with h5
          subst h5
          have hcap : gen * sz ≤ cur.size := by rw [hcs]; exact Nat.mul_le_mul_right _ hnc
          have hrun := run_storeCells_at P g off ty vs 0 cur w hgg (by omega) hy.ones
          simp only [Nat.add_zero] at hrun
          refine ⟨_, _, rfl, by rw [add_at, Nat.zero_add]; exact hrun, ?_⟩
          have hst := step_set (b1 := .row true cs' gen gen sz ty) (rv := ρ id) (w' := w.setRow g (cur.toList.take off ++ vs ++ cur.toList.drop (off + vs.length)).toArray) hH hb rfl (Nat.le_refl _) (fun _ _ => rfl) rfl rfl rfl (by simp [World.setRow]) (fun g' _ hn' => setRow_other w g g' _ (fun e' => hn' ⟨gen, hlo, Nat.le_refl _, by rw [e, e']; rfl⟩)) ?_ ?_
          · rw [turn_self] at hst
            exact hst
          · rw [turn_self]
            have hlater : Later ρ H ρ (H.set id (.row true cs' gen gen sz ty)) := ⟨fun _ _ _ => rfl, fun i k ⟨b, kb, kk⟩ => by
              by_cases ei : i = id
              · subst ei
                rw [hb] at kb; cases kb
                exact ⟨.row true cs' gen gen sz ty, by simp [hlt], kk⟩
              · exact ⟨b, by rw [List.getElem?_set_ne (fun h => ei h.symm)]; exact kb, kk⟩⟩
            refine ⟨hsz, s3, ⟨hn, Nat.le_refl _⟩, fun k hk1 hk2 => ?_⟩
            have : k = gen := by omega
            subst this
            refine ⟨xs.take off ++ vs ++ xs.drop (off + n), ?_, ?_, .inr ⟨g, cap, _, e2, Nat.zero_le _, setRow_heap w g _ _ ty _ hgg, hnc, hcm, ?_, ?_⟩⟩
            · rw [← s3, List.take_length]
              exact (Cels.splice hs hm hl h3 hy).later hlater
            · have := (Cels.splice hs hm hl h3 hy).1
              rw [s3] at this
              exact this.symm
            · simp only [List.size_toArray, List.length_append, List.length_take, List.length_drop, Array.length_toList]
              omega
            · rw [take_splice _ _ _ _ (by omega) (by simpa using hcap), htake, hvl]
          · intro g' ho
            rw [turn_self] at ho
            obtain ⟨k, k1, k2, k3⟩ := ho
            exact .inr ⟨k, by omega, k2, k3⟩
      · cases h
    · cases h
theorem vstore_rel {x y : V} {u v : Value} {H' : Heap} (hT : TabOk P T) (h : vstore T H t x y = some H') (hH : HRel ρ H w) (hx : VRel ρ H x u) (hy : VRel ρ H y v) :
    ∃ w', (Instr.storeAt t u v).run P w = .ok () w' ∧ Step ρ H w ρ H' w' := by
  unfold vstore at h
  split at h
  · rename_i a n ys ti hc hti
    obtain ⟨hn, h⟩ := bif_some h
    have hn := beq_nat hn
    obtain ⟨h1, h2⟩ := cells_rel hc hy
    obtain ⟨ad, w', rfl, h3, h4⟩ := wrAt_rel (P := P) h hH hx h2 h1
    have hsz : v.cells.size = ti.size := by have := h2.1; simp at this; omega
    refine ⟨w', ?_, h4⟩
    simp only [Instr.storeAt, Instr.sureAddr, storeVar, Sem.run_bind, Sem.run_pure, Result.andThen_ok, (hT _ _ hti).size, hsz, ne_eq, not_true_eq_false, if_false, h3]
  · cases h
end
end Go.Proofs.Ytbfepedjnlcgkaa.Pe
