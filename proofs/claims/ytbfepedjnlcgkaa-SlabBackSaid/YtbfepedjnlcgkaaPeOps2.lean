/- A plain reading of the model's code: what is read of memory, places, and values built. -/
import Derived.Test.YtbfepedjnlcgkaaPeOps1
set_option linter.unusedVariables false
namespace Go.Proofs.Ytbfepedjnlcgkaa.Pe
open Go.Proofs.Ytbfepedjnlcgkaa.B (add_at)
theorem add_add (a : Addr) (m n : Nat) : (a.add m).add n = a.add (m + n) := by
  unfold Addr.add
  by_cases hm : m = 0
  · subst hm; simp
  · by_cases hn : n = 0
    · subst hn; simp
    · simp [hm, hn, Nat.add_assoc]
theorem add_zero (a : Addr) : a.add 0 = a := by simp [Addr.add]
theorem bif_some {α : Type} {b : Bool} {x : Option α} {y : α} (h : (bif b then x else none) = some y) : b = true ∧ x = some y := by cases b <;> simp_all
theorem sub_some {m : Nat} {xs ys : List C} {off n : Nat} (h : sub m xs off n = some ys) (hl : xs.length = m) : ys = (xs.drop off).take n ∧ (0 < n → off + n ≤ m) ∧ ys.length = n := by
  unfold sub at h
  cases hb : (Nat.beq off 0 && Nat.beq n m) with
  | true =>
    simp only [hb, cond_true, Option.some.injEq] at h
    simp only [Bool.and_eq_true] at hb
    have h1 := beq_nat hb.1
    have h2 := beq_nat hb.2
    subst h1; subst h2; subst h
    rw [List.drop_zero, List.take_of_length_le (by omega)]
    exact ⟨rfl, fun _ => by omega, hl⟩
  | false =>
    simp only [hb, cond_false] at h
    obtain ⟨h1, h2⟩ := takeL_some _ _ _ h
    rw [dropL_eq] at h1 h2
    have h3 := h2
    rw [List.length_drop] at h2
    exact ⟨h1, fun _ => by omega, by rw [h1, List.length_take]; omega⟩
section
variable {P : Program} {T : Tys} {t : TypeId} {ti : TI} {ρ : Ren} {H : Heap} {w : World} {a : Act}
/-- n cells lie at a place. -/
def Lies (w : World) (ad : Addr) (vs : List Value) : Prop := ∀ j u, vs[j]? = some u → w.cell? (ad.add j) = some u
theorem Lies.sub {ad : Addr} {vs : List Value} (h : Lies w ad vs) (off n : Nat) : Lies w (ad.add off) ((vs.drop off).take n) := by
  intro j u hu
  rw [List.getElem?_take] at hu
  split at hu
  · rw [List.getElem?_drop] at hu
    rw [add_add]
    exact h _ u hu
  · cases hu
theorem rdAt_rel {x : C} {n : Nat} {cs : List C} {v : Value} (h : rdAt H x n = some cs) (hH : HRel ρ H w) (hv : CRel ρ H x v) :
    ∃ ad vs, v = .pointer (some ad) ∧ cs.length = n ∧ Cels ρ H cs vs ∧ Lies w ad vs := by
  cases x <;> simp only [rdAt, reduceCtorEq, getL_eq] at h
  case p id off =>
    obtain ⟨_, ad, e, rfl⟩ := hv
    split at h
    · rename_i wr m cells hb
      obtain ⟨hl, g, ty, vs, h1, h2, h3⟩ := hH.blk _ _ hb
      rw [e] at h1
      injection h1 with h1; injection h1 with h1
      subst h1
      obtain ⟨e1, e2, e3⟩ := sub_some h hl
      refine ⟨_, (vs.toList.drop off).take n, rfl, e3, by rw [e1]; exact (h3.drop off).take n, Lies.sub (fun j u hu => ?_) off n⟩
      rw [add_at, cell_of_row w g _ vs ty (0, 0) h2]
      simpa using hu
    · cases h
  case q id off gen =>
    obtain ⟨_, ad, k, c, e, rfl⟩ := hv
    split at h
    · rename_i wr cells m lo sz ty hb
      obtain ⟨hc, h⟩ := bif_some h
      simp only [Bool.and_eq_true] at hc
      have c1 := ble_nat hc.1
      have c2 := ble_nat hc.2
      obtain ⟨h0, h1, h2, h3⟩ := hH.blk _ _ hb
      obtain ⟨b, hb', hg⟩ := ‹Gb H id gen›
      rw [hb] at hb'
      cases hb'
      obtain ⟨xs, h4, h5⟩ := h3 gen c1 (Nat.le_of_lt_succ hg)
      rw [e] at h5
      obtain ⟨e1, e2, e3⟩ := sub_some h h1
      have h6 : (Value.slice (some ad) k c).ownBlock = some ad.block := rfl
      have had : ad = ⟨ad.block, 0, none⟩ := by
        rcases h5.2 with ⟨h5, _⟩ | ⟨g, cap, cur, h5, _⟩
        · cases h5
        · injection h5 with h5; injection h5 with h5; rw [h5]
      refine ⟨_, (xs.drop off).take n, rfl, e3, ?_, Lies.sub (fun j u hu => ?_) off n⟩
      · have := (h4.drop off).take n
        rw [List.drop_take, List.take_take, Nat.min_eq_left (by omega)] at this
        rw [e1]; exact this
      · rw [had]; exact h5.cells h6 j u hu
    · rename_i cells m sz hb
      obtain ⟨hc, h⟩ := bif_some h
      have c1 := beq_nat hc
      subst c1
      obtain ⟨h0, h1, A, c', h2, h3, h4⟩ := hH.blk _ _ hb
      rw [e] at h2
      obtain ⟨e1, e2, e3⟩ := sub_some h h0
      by_cases hn : 0 < gen
      · obtain ⟨ad', xs, h5, h6, h7, _⟩ := h4 hn
        injection h2 with h2
        rw [h5] at h2
        injection h2 with h2
        subst h2
        exact ⟨_, (xs.drop off).take n, rfl, e3, by rw [e1]; exact (h6.drop off).take n, Lies.sub h7 off n⟩
      · have hc : cells = [] := List.eq_nil_of_length_eq_zero (by rw [h0, show gen = 0 by omega, Nat.zero_mul])
        subst hc
        simp at e1
        subst e1
        exact ⟨_, [], rfl, e3, All2.nil, fun j u hu => by simp at hu⟩
    · cases h
theorem run_cells {ad : Addr} {vs : List Value} (h : Lies w ad vs) {n : Nat} (hn : vs.length = n) : (loadCells ad n).run P w = .ok vs.toArray w := by
  subst hn
  exact run_loadCells_list w ad vs h
theorem vload_rel {x z : V} {u : Value} (hT : TabOk P T) (h : vload T H t x = some z) (hH : HRel ρ H w) (hx : VRel ρ H x u) : ∃ r, (Instr.loadAt t u).run P w = .ok r w ∧ VRel ρ H z r := by
  unfold vload at h
  split at h
  · rename_i x ti hti
    have ht := hT _ _ hti
    cases ha : ti.agg with
    | true =>
      simp only [ha, cond_true] at h
      split at h
      · rename_i cs hr
        cases h
        obtain ⟨ad, vs, rfl, h1, h2, h3⟩ := rdAt_rel hr hH hx
        have hl : vs.length = ti.size := h2.1.symm.trans h1
        refine ⟨.agg vs.toArray, ?_, vs.toArray, rfl, h1, by simpa using h2⟩
        simp only [Instr.loadAt, Instr.sureAddr, loadVar, Sem.run_bind, Sem.run_pure, Result.andThen_ok, ht.isAgg, ha, if_true, ht.size, run_cells h3 hl]
      · cases h
    | false =>
      simp only [ha, cond_false] at h
      split at h
      · rename_i c rest hr
        cases h
        obtain ⟨ad, vs, rfl, h1, h2, h3⟩ := rdAt_rel hr hH hx
        obtain ⟨v, h4, h5⟩ := h2.get (i := 0) rfl
        have h6 := h3 0 v h4
        rw [add_zero] at h6
        refine ⟨v, ?_, h5.2⟩
        simp [Instr.loadAt, Instr.sureAddr, loadVar, ht.isAgg, ha, h6]
      · cases h
  · cases h
theorem vpart_rel {cs : List C} {vs : Array Value} {off : Nat} {z : V} (hT : TabOk P T) (h : vpart T t cs off = some z) (hc : Cels ρ H cs vs.toList) : ∃ r, (part t vs off).run P w = .ok r w ∧ VRel ρ H z r := by
  unfold vpart at h
  split at h
  · rename_i ti hti
    have ht := hT _ _ hti
    cases ha : ti.agg with
    | true =>
      simp only [ha, cond_true] at h
      split at h
      · rename_i xs hr
        cases h
        obtain ⟨h1, h2⟩ := takeL_some _ _ _ hr
        rw [dropL_eq] at h1 h2
        refine ⟨.agg (vs.extract off (off + ti.size)), ?_, _, rfl, by rw [h1, List.length_take]; omega, ?_⟩
        · simp only [part, Sem.run_bind, ht.isAgg, ha, Result.andThen_ok, if_true, ht.size, Sem.run_pure]
        · rw [h1, Array.toList_extract, List.extract_eq_take_drop, Nat.add_sub_cancel_left]
          exact (hc.drop off).take ti.size
      · cases h
    | false =>
      simp only [ha, cond_false] at h
      split at h
      · rename_i c hr
        cases h
        rw [getL_eq] at hr
        obtain ⟨v, h4, h5⟩ := hc.get hr
        refine ⟨v, ?_, h5.2⟩
        have h6 : vs[off]? = some v := by simpa using h4
        simp [part, ht.isAgg, ha, h6]
      · cases h
  · cases h
theorem vfield_rel {x z : V} {u : Value} {f : Nat} (hT : TabOk P T) (h : vfield T t x f = some z) (hx : VRel ρ H x u) : ∃ r, (Instr.field t u f).run P w = .ok r w ∧ VRel ρ H z r := by
  unfold vfield at h
  split at h
  · rename_i n cs fs s1 s2 s3 s4 hti
    obtain ⟨F, hu, hF, _⟩ := (hT _ _ hti).kd
    obtain ⟨vs, rfl, _, hc⟩ := hx
    split at h
    · rename_i off ft hf
      rw [getL_eq, ← hF, List.getElem?_map] at hf
      cases hq : F.toList[f]? with
      | none => simp [hq] at hf
      | some fd =>
        simp only [hq, Option.map_some, Option.some.injEq, Prod.mk.injEq] at hf
        obtain ⟨rfl, rfl⟩ := hf
        obtain ⟨r, h1, h2⟩ := vpart_rel (P := P) (w := w) hT h hc
        have hq' : F[f]? = some fd := by simpa using hq
        exact ⟨r, by simp [Instr.field, run_underlying hu, hq', asAgg, h1], h2⟩
    · cases h
  · cases h
theorem inN_iff {j : Int} {n : Nat} (h : inN j n = true) : 0 ≤ j ∧ j < n := by rw [inN_eq] at h; exact of_decide_eq_true h
theorem vindex_rel {x y z : V} {u v : Value} (hT : TabOk P T) (h : vindex T t x y = some z) (hx : VRel ρ H x u) (hy : VRel ρ H y v) : ∃ r, (Instr.index t u v).run P w = .ok r w ∧ VRel ρ H z r := by
  unfold vindex at h
  split at h
  · rename_i n cs k j m e s1 s2 s3 s4 hti
    have hu := (hT _ _ hti).kd
    simp only [kdOk] at hu
    obtain ⟨vs, rfl, _, hc⟩ := hx
    simp only [VRel, CRel] at hy
    subst hy
    split at h
    · rename_i ei hei
      obtain ⟨hi, h⟩ := bif_some h
      have hi := inN_iff hi
      obtain ⟨r, h1, h2⟩ := vpart_rel (P := P) (w := w) hT h hc
      refine ⟨r, ?_, h2⟩
      simp [Instr.index, asIntOf, run_underlying hu, hi, (hT _ _ hei).size, h1]
    · cases h
  · rename_i l k j s1 s2 s3 s4 hti
    have hu := (hT _ _ hti).kd
    simp only [kdOk] at hu
    simp only [VRel, CRel] at hx hy
    subst hx; subst hy
    split at h
    · rename_i m
      split at h
      · rename_i b hb
        cases h
        rw [getL_eq] at hb
        refine ⟨.int .u8 b.toNat, ?_, rfl⟩
        have h0 : (0 : Int) ≤ Int.ofNat m := Int.natCast_nonneg m
        have h1 : (⟨l.toArray⟩ : ByteArray)[m]? = some b := by
          have hlt : m < l.length := (List.getElem?_eq_some_iff.1 hb).1
          have hs : m < (⟨l.toArray⟩ : ByteArray).size := by show m < l.toArray.size; simpa using hlt
          rw [getElem?_pos _ m hs]
          rw [List.getElem?_eq_getElem hlt] at hb
          injection hb with hb
          rw [← hb]; rfl
        have h2 : (if (0 : Int) ≤ Int.ofNat m then (⟨l.toArray⟩ : ByteArray)[(Int.ofNat m).toNat]? else none) = some b := by
          rw [if_pos h0]; exact h1
        simp only [Instr.index, asIntOf, Sem.run_bind, Sem.run_pure, Result.andThen_ok, run_underlying hu, h2]
      · cases h
    · cases h
  · cases h
theorem vfieldAddr_rel {x z : V} {u : Value} {f : Nat} (hT : TabOk P T) (h : vfieldAddr T t x f = some z) (hx : VRel ρ H x u) : ∃ r, (Instr.fieldAt t u f).run P w = .ok r w ∧ VRel ρ H z r := by
  unfold vfieldAddr at h
  split at h
  · rename_i fs s1 s2 s3 s4 hti
    obtain ⟨F, hu, hF, _⟩ := (hT _ _ hti).kd
    split at h
    · rename_i o ft hf
      rw [getL_eq, ← hF, List.getElem?_map] at hf
      cases hq : F.toList[f]? with
      | none => simp [hq] at hf
      | some fd =>
        simp only [hq, Option.map_some, Option.some.injEq, Prod.mk.injEq] at hf
        obtain ⟨rfl, rfl⟩ := hf
        have hq' : F[f]? = some fd := by simpa using hq
        split at h
        · rename_i fi hfi
          cases hz : Nat.beq fi.size 0 with
          | true => simp [hz] at h
          | false =>
            simp only [hz, cond_false] at h
            have hz' : fi.size ≠ 0 := fun e => by rw [e] at hz; simp at hz
            have hp : ∀ ad : Addr, (fieldPlace ad fd).run P w = .ok (ad.add fd.offset) w := fun ad => by
              simp [fieldPlace, (hT _ _ hfi).size, hz']
            split at h
            · cases h
              obtain ⟨g, ad, e, rfl⟩ := hx
              refine ⟨_, by simp [Instr.fieldAt, run_underlying hu, hq', Instr.sureAddr, hp]; rfl, g, ad, e, ?_⟩
              rw [add_add]
            · cases h
              obtain ⟨g, ad, n, c, e, rfl⟩ := hx
              refine ⟨_, by simp [Instr.fieldAt, run_underlying hu, hq', Instr.sureAddr, hp]; rfl, g, ad, n, c, e, ?_⟩
              rw [add_add]
            · cases h
        · cases h
    · cases h
  · cases h
theorem vindexAddr_rel {x y z : V} {u v : Value} (hT : TabOk P T) (h : vindexAddr T t x y = some z) (hx : VRel ρ H x u) (hy : VRel ρ H y v) : ∃ r, (Instr.indexAt t u v).run P w = .ok r w ∧ VRel ρ H z r := by
  unfold vindexAddr at h
  split at h
  · rename_i k j n e s1 s2 s3 s4 hti
    have hu := (hT _ _ hti).kd
    simp only [kdOk] at hu
    simp only [VRel, CRel] at hy
    subst hy
    split at h
    · rename_i ei hei
      obtain ⟨hi, h⟩ := bif_some h
      have hi := inN_iff hi
      split at h
      · cases h
        obtain ⟨g, ad, e, rfl⟩ := hx
        refine ⟨_, by simp [Instr.indexAt, asIntOf, run_underlying hu, Instr.sureAddr, hi, (hT _ _ hei).size]; rfl, g, ad, e, ?_⟩
        rw [add_add]
      · cases h
        obtain ⟨g, ad, n, c, e, rfl⟩ := hx
        refine ⟨_, by simp [Instr.indexAt, asIntOf, run_underlying hu, Instr.sureAddr, hi, (hT _ _ hei).size]; rfl, g, ad, n, c, e, ?_⟩
        rw [add_add]
      · cases h
    · cases h
  · rename_i k j e s1 s2 s3 s4 hti
    have hu := (hT _ _ hti).kd
    simp only [kdOk] at hu
    simp only [VRel, CRel] at hy
    subst hy
    split at h
    · rename_i ei hei
      split at h
      · rename_i id off len gen
        obtain ⟨hi, h⟩ := bif_some h
        have hi := inN_iff hi
        cases h
        obtain ⟨g, hlg, A, c, rfl, hlc, hf, ha⟩ := hx
        obtain ⟨ad, n, c', e, rfl⟩ := ha (by omega)
        refine ⟨_, by simp [Instr.indexAt, asIntOf, run_underlying hu, hi, (hT _ _ hei).size]; rfl, g, ad, n, c', e, ?_⟩
        rw [add_add]
      · rename_i id off len cap
        obtain ⟨hi, h⟩ := bif_some h
        have hi := inN_iff hi
        cases h
        obtain ⟨g, A, rfl, hlc, ha⟩ := hx
        obtain ⟨ad, e, rfl⟩ := ha (by omega)
        refine ⟨_, by simp [Instr.indexAt, asIntOf, run_underlying hu, hi, (hT _ _ hei).size]; rfl, g, ad, e, ?_⟩
        rw [add_add]
      · rename_i id off len cap gen
        obtain ⟨hi, h⟩ := bif_some h
        have hi := inN_iff hi
        cases h
        obtain ⟨g, A, rfl, hlc, ha⟩ := hx
        obtain ⟨ad, n, c', e, rfl⟩ := ha (by omega)
        refine ⟨_, by simp [Instr.indexAt, asIntOf, run_underlying hu, hi, (hT _ _ hei).size]; rfl, g, ad, n, c', e, ?_⟩
        rw [add_add]
      · cases h
    · cases h
  · cases h
end
end Go.Proofs.Ytbfepedjnlcgkaa.Pe
