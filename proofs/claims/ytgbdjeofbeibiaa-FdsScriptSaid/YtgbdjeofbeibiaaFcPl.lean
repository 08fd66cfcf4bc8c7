/- FdsScript: a table and its reference, without a program. -/
import Derived.Test.YtgbdjeofbeibiaaFcTx
set_option linter.unusedVariables false
namespace Go.Proofs.Ytgbdjeofbeibiaa.Pe
abbrev Ce := Bool × Int
/-- Those that are open, from a number on. -/
def entF : Nat → List Ce → List En
  | _, [] => []
  | k, p :: l => if p.1 then (k, p.2) :: entF (k + 1) l else entF (k + 1) l
theorem entF_app : ∀ (l m : List Ce) (k : Nat), entF k (l ++ m) = entF k l ++ entF (k + l.length) m
  | [], m, k => by simp [entF]
  | p :: l, m, k => by
    simp only [List.cons_append, entF, List.length_cons]
    have e : k + (l.length + 1) = k + 1 + l.length := by omega
    split <;> simp [entF_app l m (k + 1), e]
theorem entF_in : ∀ {l : List Ce} {k : Nat} {q : En}, q ∈ entF k l → k ≤ q.1 ∧ q.1 < k + l.length ∧ (true, q.2) ∈ l
  | [], _, q, h => by simp [entF] at h
  | p :: l, k, q, h => by
    unfold entF at h
    split at h
    · rename_i hp
      rcases List.mem_cons.1 h with rfl | h
      · refine ⟨Nat.le_refl _, by simp, ?_⟩
        have : (true, p.2) = p := by rw [← hp]
        rw [this]; exact List.mem_cons_self
      · obtain ⟨h1, h2, h3⟩ := entF_in h
        exact ⟨by omega, by rw [List.length_cons]; omega, List.mem_cons_of_mem _ h3⟩
    · obtain ⟨h1, h2, h3⟩ := entF_in h
      exact ⟨by omega, by rw [List.length_cons]; omega, List.mem_cons_of_mem _ h3⟩
theorem entF_len : ∀ (l : List Ce) (k : Nat), (entF k l).length = l.countP (·.1)
  | [], _ => rfl
  | p :: l, k => by
    unfold entF
    rw [List.countP_cons, ← entF_len l (k + 1)]
    split <;> simp_all
abbrev ents (A : List Ce) : List En := entF 0 A
def cnt (A : List Ce) : Int := (A.countP (·.1) : Nat)
theorem ents_cnt (A : List Ce) : ((ents A).length : Int) = cnt A := by unfold cnt; rw [entF_len]
theorem cnt_le (A : List Ce) : 0 ≤ cnt A ∧ cnt A ≤ A.length := ⟨by unfold cnt; omega, by unfold cnt; have := List.countP_le_length (l := A) (p := (·.1)); omega⟩
theorem ents_len (A : List Ce) : (ents A).length ≤ A.length := by have := ents_cnt A; have := (cnt_le A).2; omega
theorem split_at {A : List Ce} {i : Nat} {p : Ce} (h : A[i]? = some p) : A = A.take i ++ p :: A.drop (i + 1) ∧ (A.take i).length = i := by
  have hlt := (List.getElem?_eq_some_iff.1 h).1
  refine ⟨?_, by rw [List.length_take]; omega⟩
  rw [← (List.getElem?_eq_some_iff.1 h).2, ← List.drop_eq_getElem_cons hlt, List.take_append_drop]
theorem ents_at {A : List Ce} {i : Nat} {p : Ce} (h : A[i]? = some p) : ents A = entF 0 (A.take i) ++ ((if p.1 then [(i, p.2)] else []) ++ entF (i + 1) (A.drop (i + 1))) := by
  obtain ⟨e, hl⟩ := split_at h
  have e2 : ents A = entF 0 (A.take i ++ p :: A.drop (i + 1)) := congrArg (entF 0) e
  rw [e2, entF_app, hl, Nat.zero_add]
  congr 1
  show (if p.1 then (i, p.2) :: entF (i + 1) (A.drop (i + 1)) else entF (i + 1) (A.drop (i + 1))) = _
  split <;> simp
theorem ents_set {A : List Ce} {i : Nat} {p : Ce} (h : A[i]? = some p) (q : Ce) : ents (A.set i q) = entF 0 (A.take i) ++ ((if q.1 then [(i, q.2)] else []) ++ entF (i + 1) (A.drop (i + 1))) := by
  have hlt := (List.getElem?_eq_some_iff.1 h).1
  have := ents_at (A := A.set i q) (i := i) (p := q) (by simp [hlt])
  rw [List.take_set_of_le (Nat.le_refl _), List.drop_set_of_lt (by omega)] at this
  exact this
/-- A number that is not held. -/
theorem ents_no {A : List Ce} {fd : Int} (h : fd < 0 ∨ (A.length : Int) ≤ fd ∨ ∃ x, A[fd.toNat]? = some (false, x)) (j : Nat) (q : En) (hq : (ents A)[j]? = some q) : (q.1 : Int) ≠ fd := by
  have hm := List.mem_of_getElem? hq
  intro e
  rcases h with h | h | ⟨x, h⟩
  · omega
  · have := (entF_in hm).2.1; omega
  · rw [ents_at h] at hm
    have hi : fd.toNat = q.1 := by omega
    simp only [Bool.false_eq_true, if_false, List.nil_append, List.mem_append] at hm
    rcases hm with hm | hm
    · have := (entF_in hm).2.1
      rw [List.length_take] at this; omega
    · have := (entF_in hm).1; omega
/-- A number's place among those that are held. -/
def plc (A : List Ce) (i : Nat) : Nat := (entF 0 (A.take i)).length
theorem ents_yes {A : List Ce} {i : Nat} {v : Int} (h : A[i]? = some (true, v)) : (ents A)[plc A i]? = some (i, v) ∧ ∀ j, j < plc A i → ∀ q, (ents A)[j]? = some q → q.1 ≠ i := by
  rw [ents_at h]
  refine ⟨?_, fun j hj q hq => ?_⟩
  · unfold plc
    rw [List.getElem?_append_right (Nat.le_refl _), Nat.sub_self]
    rfl
  · rw [List.getElem?_append_left hj] at hq
    have := (entF_in (List.mem_of_getElem? hq)).2.1
    rw [List.length_take] at this; omega
theorem ents_put {A : List Ce} {i : Nat} {v : Int} (h : A[i]? = some (true, v)) (a : Int) : ents (A.set i (true, a)) = (ents A).set (plc A i) (i, a) := by
  rw [ents_set h, ents_at h]
  unfold plc
  rw [List.set_append_right _ _ (Nat.le_refl _), Nat.sub_self]
  rfl
theorem ents_shut {A : List Ce} {i : Nat} {v : Int} (h : A[i]? = some (true, v)) (a : Int) : ents (A.set i (false, a)) = (ents A).eraseIdx (plc A i) := by
  rw [ents_set h, ents_at h]
  unfold plc
  rw [List.eraseIdx_append_of_length_le (Nat.le_refl _), Nat.sub_self]
  rfl
theorem cnt_set {A : List Ce} {i : Nat} {p : Ce} (h : A[i]? = some p) (q : Ce) : cnt (A.set i q) = cnt A - (if p.1 then 1 else 0) + (if q.1 then 1 else 0) := by
  rw [← ents_cnt, ← ents_cnt, ents_set h, ents_at h]
  simp only [List.length_append]
  split <;> split <;> simp <;> omega
/-- The first number that is free. -/
structure FreeA (A : List Ce) (k : Nat) : Prop where
  le : k ≤ A.length
  low : ∀ j, j < k → ∃ x, A[j]? = some (true, x)
  at_ : k = A.length ∨ ∃ x, A[k]? = some (false, x)
theorem free_some : ∀ (A : List Ce), ∃ k, FreeA A k
  | [] => ⟨0, Nat.le_refl _, fun j hj => by omega, .inl rfl⟩
  | (false, x) :: A => ⟨0, Nat.zero_le _, fun j hj => by omega, .inr ⟨x, rfl⟩⟩
  | (true, x) :: A => by
    obtain ⟨k, h1, h2, h3⟩ := free_some A
    refine ⟨k + 1, by simpa using h1, fun j hj => ?_, ?_⟩
    · cases j with
      | zero => exact ⟨x, rfl⟩
      | succ j => exact h2 j (by omega)
    · rcases h3 with h3 | ⟨z, h3⟩
      · exact .inl (by simpa using h3)
      · exact .inr ⟨z, by simpa using h3⟩
def openA (A : List Ce) (k : Nat) (a : Int) : List Ce := if k < A.length then A.set k (true, a) else A ++ [(true, a)]
theorem ents_pre : ∀ (A : List Ce) (n k : Nat), (∀ j, j < n → ∃ x, A[j]? = some (true, x)) → (entF k (A.take n)).length = n ∧ ∀ j, j < n → ∃ v, (entF k (A.take n))[j]? = some (k + j, v)
  | A, 0, k, _ => by simp [entF]
  | [], n + 1, k, h => by obtain ⟨x, hx⟩ := h 0 (by omega); simp at hx
  | p :: A, n + 1, k, h => by
    obtain ⟨x, hx⟩ := h 0 (by omega)
    simp only [List.getElem?_cons_zero, Option.some.injEq] at hx
    subst hx
    obtain ⟨h1, h2⟩ := ents_pre A n (k + 1) fun j hj => by
      obtain ⟨y, hy⟩ := h (j + 1) (by omega)
      exact ⟨y, by simpa using hy⟩
    simp only [List.take_succ_cons, entF, if_true]
    refine ⟨by simp [h1], fun j hj => ?_⟩
    cases j with
    | zero => exact ⟨x, rfl⟩
    | succ j =>
      obtain ⟨v, hv⟩ := h2 j (by omega)
      exact ⟨v, by rw [List.getElem?_cons_succ, hv]; congr 2; omega⟩
section
variable {A : List Ce} {k : Nat} (h : FreeA A k)
include h
theorem FreeA.ents_eq : ents A = entF 0 (A.take k) ++ entF (k + 1) (A.drop (k + 1)) := by
  rcases h.at_ with h1 | ⟨x, h1⟩
  · have e1 : A.take k = A := List.take_of_length_le (by omega)
    have e2 : A.drop (k + 1) = [] := List.drop_of_length_le (by omega)
    rw [e1, e2]; simp [entF]
  · rw [ents_at h1]; rfl
theorem FreeA.len : (entF 0 (A.take k)).length = k := (ents_pre A k 0 h.low).1
theorem FreeA.lows (j : Nat) (hj : j < k) : ∃ v, (ents A)[j]? = some (j, v) := by
  obtain ⟨v, hv⟩ := (ents_pre A k 0 h.low).2 j hj
  rw [h.ents_eq, List.getElem?_append_left (by rw [h.len]; exact hj), hv, Nat.zero_add]
  exact ⟨v, rfl⟩
theorem FreeA.noK (j : Nat) (q : En) (hq : (ents A)[j]? = some q) : q.1 ≠ k := by
  have hm := List.mem_of_getElem? hq
  rw [h.ents_eq, List.mem_append] at hm
  rcases hm with hm | hm
  · have := (entF_in hm).2.1
    rw [List.length_take] at this; omega
  · have := (entF_in hm).1; omega
theorem FreeA.leE : k ≤ (ents A).length := by
  rw [h.ents_eq, List.length_append, h.len]; omega
theorem FreeA.opened (a : Int) : ents (openA A k a) = (ents A).take k ++ (k, a) :: (ents A).drop k := by
  have e1 : (ents A).take k = entF 0 (A.take k) := by
    rw [h.ents_eq, List.take_append_of_le_length (by rw [h.len]; exact Nat.le_refl _), List.take_of_length_le (by rw [h.len]; exact Nat.le_refl _)]
  have e2 : (ents A).drop k = entF (k + 1) (A.drop (k + 1)) := by
    rw [h.ents_eq]
    conv => lhs; rw [← h.len]
    rw [List.drop_append_of_le_length (by simp [h.len]), h.len, List.drop_of_length_le (by rw [h.len]; exact Nat.le_refl _), List.nil_append]
  rw [e1, e2]
  unfold openA
  split
  · rename_i hk
    obtain ⟨x, hx⟩ := h.at_.resolve_left (by omega)
    rw [ents_set hx]; rfl
  · rename_i hk
    have ek : k = A.length := by have := h.le; omega
    subst ek
    have e3 : A.drop (A.length + 1) = [] := List.drop_of_length_le (by omega)
    rw [e3, List.take_length]
    unfold ents
    rw [entF_app]
    simp [entF]
theorem FreeA.cnt_open (a : Int) : cnt (openA A k a) = cnt A + 1 := by
  rw [← ents_cnt, ← ents_cnt, h.opened a]
  have := h.leE
  simp only [List.length_append, List.length_take, List.length_cons, List.length_drop]
  omega
end
theorem openA_len (A : List Ce) (k : Nat) (a : Int) : (openA A k a).length ≤ A.length + 1 := by unfold openA; split <;> simp
theorem openA_mem {A : List Ce} {k : Nat} {a : Int} {p : Ce} (h : p ∈ openA A k a) : p ∈ A ∨ p = (true, a) := by
  unfold openA at h
  split at h
  · rcases List.mem_or_eq_of_mem_set h with h | h
    · exact .inl h
    · exact .inr h
  · rcases List.mem_append.1 h with h | h
    · exact .inl h
    · exact .inr (by simpa using h)
/-! ### cells of numbers, of texts -/
def fI (p : Ce) : C := .i .i64 p.2
def fS (p : Ce) : C := .s (if p.1 then txt p.2 else [])
def cL (f : Ce → C) (A : List Ce) : List (Bool × C) := A.map fun p => (p.1, f p)
theorem cL_len (f : Ce → C) (A : List Ce) : (cL f A).length = A.length := by simp [cL]
theorem cL_at {f : Ce → C} {A : List Ce} {i : Nat} {p : Ce} (h : A[i]? = some p) : (cL f A)[i]? = some (p.1, f p) := by simp [cL, h]
theorem cL_set (f : Ce → C) (A : List Ce) (i : Nat) (p : Ce) : cL f (A.set i p) = (cL f A).set i (p.1, f p) := by simp [cL, List.map_set]
theorem cL_open (f : Ce → C) (A : List Ce) (k : Nat) (a : Int) : cL f (openA A k a) = openL (cL f A) k (f (true, a)) := by
  unfold openA openL
  rw [cL_len]
  split
  · exact cL_set f A k (true, a)
  · simp [cL]
theorem cL_free {f : Ce → C} {A : List Ce} {k : Nat} (h : FreeA A k) : Free (cL f A) k := by
  refine ⟨by rw [cL_len]; exact h.le, fun j hj => ?_, ?_⟩
  · obtain ⟨x, hx⟩ := h.low j hj
    exact ⟨_, cL_at hx⟩
  · rcases h.at_ with h1 | ⟨x, h1⟩
    · exact .inl (by rw [cL_len]; exact h1)
    · exact .inr ⟨_, cL_at h1⟩
theorem cL_no {f : Ce → C} {A : List Ce} {fd : Int} (h : fd < 0 ∨ (A.length : Int) ≤ fd ∨ ∃ x, A[fd.toNat]? = some (false, x)) : fd < 0 ∨ ((cL f A).length : Int) ≤ fd ∨ ∃ x, (cL f A)[fd.toNat]? = some (false, x) := by
  rw [cL_len]
  rcases h with h | h | ⟨x, h⟩
  · exact .inl h
  · exact .inr (.inl h)
  · exact .inr (.inr ⟨_, cL_at h⟩)
theorem entL_cL (f : Ce → C) : ∀ (A : List Ce) (k : Nat), entL k (cL f A) = (entF k A).map fun q => (q.1, f (true, q.2))
  | [], _ => rfl
  | p :: A, k => by
    obtain ⟨b, v⟩ := p
    have ih := entL_cL f A (k + 1)
    unfold cL at ih ⊢
    simp only [List.map_cons, entL, entF]
    cases b <;> simp [ih]
theorem fds_cL (f : Ce → C) (A : List Ce) : fdsC (entL 0 (cL f A)) = fC (ents A) := by rw [entL_cL]; simp [fdsC, fC]
theorem vals_I (A : List Ce) : valsC (entL 0 (cL fI A)) = vC (ents A) := by rw [entL_cL]; simp [valsC, vC, fI]
theorem vals_S (A : List Ce) : valsC (entL 0 (cL fS A)) = tC (ents A) := by rw [entL_cL]; simp [valsC, tC, fS]
theorem entL_len (f : Ce → C) (A : List Ce) : (entL 0 (cL f A)).length = (ents A).length := by rw [entL_cL]; simp
theorem cL_VI (A : List Ce) : ∀ p ∈ cL fI A, VI p.2 := fun p hp => by
  obtain ⟨q, _, rfl⟩ := List.mem_map.1 hp
  exact ⟨_, rfl⟩
theorem cL_VS (A : List Ce) : ∀ p ∈ cL fS A, VS p.2 := fun p hp => by
  obtain ⟨q, _, rfl⟩ := List.mem_map.1 hp
  exact ⟨_, rfl⟩
/-- A number is held, or it is not. -/
theorem held (A : List Ce) (fd : Int) : (0 ≤ fd ∧ ∃ v, A[fd.toNat]? = some (true, v)) ∨ (fd < 0 ∨ (A.length : Int) ≤ fd ∨ ∃ x, A[fd.toNat]? = some (false, x)) := by
  by_cases h : fd < 0
  · exact .inr (.inl h)
  · by_cases h2 : (A.length : Int) ≤ fd
    · exact .inr (.inr (.inl h2))
    · have hg : A[fd.toNat]? = some (A[fd.toNat]'(by omega)) := List.getElem?_eq_getElem (by omega)
      rcases hp : (A[fd.toNat]'(by omega)) with ⟨b, v⟩
      rw [hp] at hg
      cases b with
      | true => exact .inl ⟨by omega, v, hg⟩
      | false => exact .inr (.inr (.inr ⟨v, hg⟩))
end Go.Proofs.Ytgbdjeofbeibiaa.Pe
