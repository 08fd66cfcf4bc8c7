/- For the rows: an array or a struct of whole numbers that comes in, opened. -/
import Derived.Test.YtiafeogjknilmaaRowBase
import Derived.Test.YtiafeogjknilmaaFlat
import Derived.ChangeArms
namespace Go.Proofs.Ytiafeogjknilmaa.B
open Go.RowKit Go.ChangeShapes Go.WideShapes
section
variable {H : Type} {enc : TypeId × Value → H} {P : Program} {w : World} {base : Nat} {spare : Nat → Bool} {held : Bool}
/-- Each cell of a value of this type is a whole number of its kind. -/
def AllInt (enc : TypeId × Value → H) (P : Program) (w : World) (base : Nat) (spare : Nat → Bool) (held : Bool) (k : IntKind) (t : TypeId) (n : Nat) : Prop :=
  ∀ fuel cs x, DataW.trod enc P w base spare held fuel t cs = some x → cs.length = n ∧ ∀ j, j < n → ∃ v, cs[j]? = some (.int k v) ∧ (Lit.int k v).wf = true
theorem allInt_int {k : IntKind} {t : TypeId} (ht : P.underlying t = some (.int k)) : AllInt enc P w base spare held k t 1 := by
  intro fuel cs x h
  obtain ⟨v, rfl, _, hw⟩ := DataW.trod_int ht h
  exact ⟨rfl, fun j hj => ⟨v, by rw [show j = 0 by omega]; rfl, hw⟩⟩
theorem allInt_array {k : IntKind} {t e : TypeId} {n m : Nat} (ht : P.underlying t = some (.array n e)) (hc : P.cellsOf t = m) (he : P.cellsOf e = 1) (hm : m = n) (hi : AllInt enc P w base spare held k e 1) : AllInt enc P w base spare held k t m := by
  intro fuel cs x h
  obtain ⟨xs, f, _, _, hl, hx, hi'⟩ := DataW.trod_array ht h
  refine ⟨by rw [hl, hc], fun j hj => ?_⟩
  have h1 := hi' j (by omega)
  rw [he, Nat.mul_one] at h1
  have hj2 : j < xs.length := by omega
  rw [List.getElem?_eq_getElem hj2] at h1
  obtain ⟨h2, h3⟩ := hi _ _ _ h1
  obtain ⟨v, hv, hw⟩ := h3 0 (by omega)
  refine ⟨v, ?_, hw⟩
  simpa [List.getElem?_take, List.getElem?_drop] using hv
theorem allInt_struct {k : IntKind} {t : TypeId} {fs : Array Field} {m : Nat} (ht : P.underlying t = some (.struct fs)) (hc : P.cellsOf t = m)
    (hf : ∀ j, j < m → ∃ (i : Nat) (f : Field) (c : Nat), fs[i]? = some f ∧ P.cellsOf f.type = c ∧ f.offset ≤ j ∧ j < f.offset + c ∧ AllInt enc P w base spare held k f.type c) : AllInt enc P w base spare held k t m := by
  intro fuel cs x h
  obtain ⟨xs, n, _, _, hl, hx, hi'⟩ := DataW.trod_struct ht h
  refine ⟨by rw [hl, hc], fun j hj => ?_⟩
  obtain ⟨i, f, c, hfi, hcf, ho, hlt, hall⟩ := hf j hj
  have h1 := hi' i f hfi
  have hi2 : i < xs.length := by rw [hx]; exact (Array.getElem?_eq_some_iff.1 hfi).1
  rw [List.getElem?_eq_getElem hi2, hcf] at h1
  obtain ⟨h2, h3⟩ := hall _ _ _ h1
  obtain ⟨v, hv, hw⟩ := h3 (j - f.offset) (by omega)
  refine ⟨v, ?_, hw⟩
  have e : f.offset + (j - f.offset) = j := by omega
  have hlt2 : j - f.offset < c := by omega
  simpa [List.getElem?_take, List.getElem?_drop, hlt2, e] using hv
theorem okWide_array {r : Reach} {b0 : Nat} {t e : TypeId} {n : Nat} {v : Value} (ht : P.underlying t = some (.array n e)) (h : Value.okWide P w r b0 t v) : ∃ cs, v = .agg cs := by
  simp only [Value.okWide, ht] at h
  obtain ⟨cs, h1, _⟩ := h
  exact ⟨cs, h1⟩
/-- An array of numbers, opened. -/
theorem open_arr {r : Reach} {b0 : Nat} {t e : TypeId} {n : Nat} {k : IntKind} {v : Value} {d : DataW H} {ps : List MemPlace} (ht : P.underlying t = some (.array n e)) (hc : P.cellsOf t = n) (he : P.underlying e = some (.int k)) (hce : P.cellsOf e = 1)
    (hval : Value.okWide P w r b0 t v) (h : DataW.Trod enc P w base spare held t v d ps) : ∃ f : Nat → Int, v = .agg (arrV n k f) ∧ ∀ i, (Lit.int k (f i)).wf = true := by
  obtain ⟨cs, rfl⟩ := okWide_array ht hval
  obtain ⟨fuel, hf⟩ := h
  obtain ⟨h1, h2⟩ := allInt_array (k := k) ht hc hce rfl (allInt_int he) _ _ _ hf
  simp only [Value.cells] at h1 h2
  have hz : (Lit.int k 0).wf = true := by cases k <;> decide
  refine ⟨fun i => match cs[i]? with | some (.int _ x) => if (Lit.int k x).wf = true then x else 0 | _ => 0, ?_, ?_⟩
  · congr 1
    apply Array.ext
    · rw [arrV_size]; simpa using h1
    · intro i hi1 hi2
      rw [arrV_size] at hi2
      obtain ⟨x, hx, hw⟩ := h2 i hi2
      rw [Array.getElem?_toList] at hx
      have e1 : cs[i] = .int k x := by
        have := Array.getElem?_eq_getElem hi1
        rw [hx] at this; injection this with this; exact this.symm
      have := arrV_get n k (fun i => match cs[i]? with | some (.int _ x) => if (Lit.int k x).wf = true then x else 0 | _ => 0) i hi2
      rw [Array.getElem?_eq_getElem (by rw [arrV_size]; exact hi2)] at this
      injection this with this
      rw [this, e1]
      simp only [hx, hw, if_true]
  · intro i
    dsimp only
    split
    · split
      · assumption
      · exact hz
    · exact hz
/-- A struct of numbers, opened. -/
theorem open_ints_struct {r : Reach} {b0 : Nat} {t : TypeId} {fs : Array Field} {n : Nat} {k : IntKind} {v : Value} {d : DataW H} {ps : List MemPlace} (ht : P.underlying t = some (.struct fs)) (ha : AllInt enc P w base spare held k t n)
    (hval : Value.okWide P w r b0 t v) (h : DataW.Trod enc P w base spare held t v d ps) : ∃ l : List Int, v = .agg (l.map (Value.int k)).toArray ∧ l.length = n ∧ ∀ x ∈ l, (Lit.int k x).wf = true := by
  obtain ⟨cs, rfl, _⟩ := okWide_struct ht hval
  obtain ⟨fuel, hf⟩ := h
  obtain ⟨h1, h2⟩ := ha _ _ _ hf
  simp only [Value.cells] at h1 h2
  have key : ∀ (l : List Value) (m : Nat), l.length = m → (∀ j, j < m → ∃ v, l[j]? = some (.int k v) ∧ (Lit.int k v).wf = true) → ∃ as : List Int, l = as.map (Value.int k) ∧ as.length = m ∧ ∀ x ∈ as, (Lit.int k x).wf = true := by
    intro l
    induction l with
    | nil => intro m hm _; exact ⟨[], rfl, by simpa using hm, by simp⟩
    | cons a l ih =>
      intro m hm hj
      obtain ⟨v, hv, hw⟩ := hj 0 (by simp at hm; omega)
      simp at hv
      obtain ⟨as, e, el, ew⟩ := ih (m - 1) (by simp at hm; omega) (fun j hjm => by
        have := hj (j + 1) (by omega)
        simpa using this)
      refine ⟨v :: as, by rw [hv, e]; rfl, by simp at hm ⊢; omega, ?_⟩
      intro x hx
      rcases List.mem_cons.1 hx with rfl | hx
      · exact hw
      · exact ew x hx
  obtain ⟨as, e, el, ew⟩ := key cs.toList n h1 h2
  exact ⟨as, by rw [← e], el, ew⟩
end
end Go.Proofs.Ytiafeogjknilmaa.B
