/- From a row's list of lists of bytes to the plain reading's memory. -/
import Derived.Test.YtbfepedjnlcgkaaRowSl
import Derived.Test.YtbfepedjnlcgkaaRowBase
import Derived.Deep.Matrix
set_option linter.unusedVariables false
namespace Go.Proofs.Ytbfepedjnlcgkaa.Pe
open Go.RowKit Go.ChangeShapes Go.WideShapes Go.Proofs.Ytbfepedjnlcgkaa.B Go.Deep
/-- What a row knows of a list of lists of bytes. -/
structure RowsBB (w : World) (a : Option Addr) (len cap : Nat) (A : Nat → Option Addr) (L C : Nat → Nat) (Z : Nat → List Int) : Prop where
  le : len ≤ cap
  lim : len ≤ 140737488351232
  rd : ∀ r, r < len → RdN w .u8 (A r) (Z r) ∧ (Z r).length = L r ∧ L r ≤ C r ∧ (∀ x ∈ Z r, (Lit.int .u8 x).wf = true) ∧ L r ≤ 140737488351232
  top : 0 < len → ∃ ad, a = some ad ∧ ∀ r, r < len → w.cell? (ad.add r) = some (.slice (A r) (L r) (C r))
theorem weights_all {H : Type} {P : Program} {e : TypeId} {n : Nat} {d : DataW H} : ∀ {l : List (DataW H)}, d ∈ l → n ∈ d.weights P e → n ∈ DataW.weightsAll P e l
  | [], h, _ => by cases h
  | x :: l, h, hn => by
    simp only [DataW.weightsAll, List.mem_append]
    rcases List.mem_cons.1 h with rfl | h
    · exact .inl hn
    · exact .inr (weights_all h hn)
theorem open_rows8 {H : Type} {enc : TypeId × Value → H} {P : Program} {W : World} {base : Nat} {held : Bool} {t e q : TypeId} {a : Option Addr} {len cap : Nat} {d : DataW H} {ps : List MemPlace} {ts : List TypeId} {ds : List (DataW H)} {j : Nat}
    (hsz : (DataW.weightsEach P ts ds).all (· ≤ reachBytes) = true) (ht : ts[j]? = some t) (hd : ds[j]? = some d) (hu : P.underlying t = some (.slice e)) (he : P.underlying e = some (.slice q)) (hq : P.underlying q = some (.int .u8)) (ce : P.cellsOf e = 1) (cq : P.cellsOf q = 1) (hB : P.bytesOf e = 24) (hBq : P.bytesOf q = 1)
    (h : DataW.Trod enc P W base (fun _ => true) held t (.slice a len cap) d ps) : ∃ (A : Nat → Option Addr) (L C : Nat → Nat) (Z : Nat → List Int), RowsBB W a len cap A L C Z := by
  obtain ⟨fuel, hf⟩ := h
  rcases open_int_rows hu he hq ce cq hf with ⟨hcs, _⟩ | ⟨ad, len', cap', A, L, C, Z, hcs, hb, hl, hm, hx, hr⟩
  · simp [Value.cells] at hcs
    obtain ⟨rfl, rfl, rfl⟩ := hcs
    exact ⟨fun _ => none, fun _ => 0, fun _ => 0, fun _ => [], ⟨by omega, by omega, fun r hr => by omega, fun h => by omega⟩⟩
  · simp [Value.cells] at hcs
    obtain ⟨rfl, rfl, rfl⟩ := hcs
    obtain ⟨hx, _⟩ := Prod.mk.inj hx
    subst hx
    have z := sized_slice hsz ht hd hu
    rw [hB] at z
    simp only [List.length_map, List.length_range] at z
    have hrb : reachBytes = 140737488351232 := rfl
    refine ⟨A, L, C, fun r => (Z r).take (L r), ⟨hl, by omega, fun r hr' => ?_, fun _ => ⟨ad, rfl, fun r hr' => (hr r (by omega)).1⟩⟩⟩
    obtain ⟨c1, c2, c3, c4, c5, c6, c7⟩ := hr r (by omega)
    have hlen : ((Z r).take (L r)).length = L r := by rw [List.length_take]; omega
    refine ⟨⟨by rw [hlen]; simp only [maxLen] at c3; omega, fun hn => ?_⟩, hlen, c2, fun x hx => c5 x (List.mem_of_mem_take hx), ?_⟩
    · rw [hlen] at hn
      cases hA : A r with
      | none => have := c6 hA; omega
      | some a' =>
        refine ⟨a', rfl, fun j hj => ?_⟩
        rw [hlen] at hj
        rw [(c7 a' hA).2 j (by omega)]
        simp [List.getD_eq_getElem?_getD, List.getElem?_take, hj]
    · cases hA : A r with
      | none => have := c6 hA; omega
      | some a' =>
        have hmem : ((lits .u8 ((Z r).take (L r)) : List (DataW H)).length + (lits .u8 ((Z r).drop (L r)) : List (DataW H)).length) * P.bytesOf q ∈ DataW.weightsEach P ts ds := by
          refine DataW.weights_mem_each ht hd _ ?_
          simp only [DataW.weights, hu]
          refine List.mem_cons_of_mem _ (List.mem_append_left _ ?_)
          have hin : intRow .u8 (A r) (L r) (Z r) ∈ (List.range len).map fun r => (intRow .u8 (A r) (L r) (Z r) : DataW H) := List.mem_map.2 ⟨r, List.mem_range.2 hr', rfl⟩
          refine weights_all hin ?_
          simp [intRow, hA, DataW.weights, he]
        have h2 := List.all_eq_true.1 hsz _ hmem
        simp only [decide_eq_true_eq, hBq, lits, List.length_map, List.length_take, List.length_drop] at h2
        omega
/-- The memory that such a list lies in. -/
def bbCells (L : Nat → Nat) (len : Nat) : List C := (List.range len).map fun r => .sl (r + 1) 0 (L r) (L r)
def bbHeap (L : Nat → Nat) (p : Nat → List UInt8) (len : Nat) : Heap := .ror (bbCells L len) len 1 :: (List.range len).map fun r => .ror (bytesC (p r)) (L r) 1
def bbRho (a : Option Addr) (len cap : Nat) (A : Nat → Option Addr) (L C : Nat → Nat) : Ren := fun id _ => match id with
  | 0 => .slice a len cap
  | r + 1 => .slice (A r) (L r) (C r)
theorem bb_get0 {L : Nat → Nat} {p : Nat → List UInt8} {len : Nat} : (bbHeap L p len)[0]? = some (.ror (bbCells L len) len 1) := rfl
theorem bb_get {L : Nat → Nat} {p : Nat → List UInt8} {len r : Nat} (h : r < len) : (bbHeap L p len)[r + 1]? = some (.ror (bytesC (p r)) (L r) 1) := by
  simp [bbHeap, h]
theorem bb_rel {w : World} {a : Option Addr} {len cap : Nat} {A : Nat → Option Addr} {L C : Nat → Nat} {Z : Nat → List Int} (h : RowsBB w a len cap A L C Z) : ∃ p : Nat → List UInt8, (∀ r, r < len → (p r).length = L r) ∧ HRel (bbRho a len cap A L C) (bbHeap L p len) w ∧ (∀ (id : Nat) b, (bbHeap L p len)[id]? = some b → b.wr = false) ∧ VRel (bbRho a len cap A L C) (bbHeap L p len) (.c (.sl 0 0 len len)) (.slice a len cap) := by
  have hp : ∀ r, ∃ q : List UInt8, r < len → (Z r).map (Pe.C.i .u8) = bytesC q ∧ q.length = (Z r).length := fun r => by
    by_cases hr : r < len
    · obtain ⟨q, h1, h2⟩ := u8_list (Z r) (h.rd r hr).2.2.2.1
      exact ⟨q, fun _ => ⟨h1, h2⟩⟩
    · exact ⟨[], fun e => absurd e hr⟩
  obtain ⟨p, hp⟩ := Classical.axiomOfChoice hp
  have hpl : ∀ r, r < len → (p r).length = L r := fun r hr => by rw [(hp r hr).2]; exact (h.rd r hr).2.1
  have hno : ∀ (id : Nat) b, (bbHeap L p len)[id]? = some b → b.wr = false := fun id b hb => by
    have hm := List.mem_of_getElem? hb
    simp only [bbHeap, List.mem_cons, List.mem_map] at hm
    rcases hm with rfl | ⟨r, _, rfl⟩ <;> rfl
  have hrow : ∀ r, r < len → BRel (bbRho a len cap A L C) (bbHeap L p len) (r + 1) (.ror (bytesC (p r)) (L r) 1) w := fun r hr => by
    obtain ⟨c1, c2, c3, c4, c5⟩ := h.rd r hr
    have := brel_ror (ρ := bbRho a len cap A L C) (H := bbHeap L p len) (id := r + 1) (cap := C r) c1 (by omega) (by omega) (by rw [c2]; rfl)
    rw [(hp r hr).1, c2] at this
    exact this
  have hcel : ∀ r, r < len → VRel (bbRho a len cap A L C) (bbHeap L p len) (.c (.sl (r + 1) 0 (L r) (L r))) (.slice (A r) (L r) (C r)) := fun r hr => by
    obtain ⟨c1, c2, c3, c4, c5⟩ := h.rd r hr
    have := vrel_sl (ρ := bbRho a len cap A L C) (H := bbHeap L p len) (id := r + 1) (cap := C r) c1 (by rw [(hp r hr).1, c2]; exact bb_get hr) (by omega) (by rw [c2]; rfl)
    rw [c2] at this
    exact this
  refine ⟨p, hpl, ⟨fun id b hb => ?_, fun i j bi bj g _ hb _ hw => by rw [hno i bi hb] at hw; cases hw⟩, hno, ?_⟩
  · match id with
    | 0 =>
      rw [bb_get0] at hb
      cases hb
      have hlim := h.lim
      refine ⟨by simp [bbCells], by omega, a, cap, rfl, h.le, fun hn => ?_⟩
      obtain ⟨ad, rfl, htop⟩ := h.top hn
      refine ⟨ad, (List.range len).map fun r => .slice (A r) (L r) (C r), rfl, ⟨by simp [bbCells], fun i x y hx hy => ?_⟩, fun j u hu => ?_, World.block_lt_of_cell? w _ (htop 0 hn)⟩
      · simp only [bbCells, List.getElem?_map] at hx hy
        cases e : (List.range len)[i]? with
        | none => rw [e] at hx; cases hx
        | some r =>
          rw [e] at hx hy
          cases hx; cases hy
          have hr : r < len := List.mem_range.1 (List.mem_of_getElem? e)
          exact ⟨by simp, hcel r hr⟩
      · simp only [List.getElem?_map] at hu
        cases e : (List.range len)[j]? with
        | none => rw [e] at hu; cases hu
        | some r =>
          rw [e] at hu
          cases hu
          have hj := (List.getElem?_eq_some_iff.1 e)
          have : r = j := by have := hj.2; simpa using this.symm
          subst this
          exact htop r (by simpa using hj.1)
    | r + 1 =>
      have hr : r < len := by
        have := (List.getElem?_eq_some_iff.1 hb).1
        simpa [bbHeap] using this
      rw [bb_get hr] at hb
      cases hb
      exact hrow r hr
  · refine ⟨⟨_, bb_get0, Nat.lt_succ_self _⟩, Nat.le_refl _, a, cap, rfl, h.le, fun _ _ => rfl, fun hn => ?_⟩
    obtain ⟨ad, rfl, _⟩ := h.top hn
    exact ⟨ad, _, _, rfl, by rw [add_zero_]⟩
end Go.Proofs.Ytbfepedjnlcgkaa.Pe
