/- Regions that draw their order: the sets of what an operation stands behind. -/
import Derived.Test.YtbfepedjnlcgkaaPeRun4
import Derived.Orders
set_option linter.unusedVariables false
namespace Go.Proofs.Ytbfepedjnlcgkaa.Pe
open Go.RowKit
theorem bit_eq (m n : Nat) : bit m n = m.testBit n := by
  unfold bit
  rw [beq_eq, Nat.testBit_eq_decide_div_mod_eq]
  have h1 : Nat.land (Nat.shiftRight m n) 1 = (m >>> n) &&& 1 := rfl
  rw [h1, Nat.and_one_is_mod, Nat.shiftRight_eq_div_pow]
theorem bit_lor (a b k : Nat) : bit (Nat.lor a b) k = (bit a k || bit b k) := by
  rw [bit_eq, bit_eq, bit_eq]
  exact Nat.testBit_or a b k
theorem bit_pow (n k : Nat) : bit (Nat.pow 2 n) k = decide (n = k) := by
  rw [bit_eq]
  exact Nat.testBit_two_pow
theorem bit_zero (k : Nat) : bit 0 k = false := by rw [bit_eq]; simp
theorem bit_lt {m n k : Nat} (h : m < 2 ^ n) (hb : bit m k = true) : k < n := by
  rw [bit_eq] at hb
  have := Nat.ge_two_pow_of_testBit hb
  rcases Nat.lt_or_ge k n with h1 | h1
  · exact h1
  · have : 2 ^ n ≤ 2 ^ k := Nat.pow_le_pow_right (by omega) h1
    omega
theorem deps_cons (cls : List Nat) (e : Edge) (es : List Edge) (m : Nat) : deps cls (e :: es) m = (bif Region.binds .any e then deps cls es (Nat.lor m (Nat.lor (Nat.pow 2 e.on) ((getL cls e.on).getD 0))) else deps cls es m) := rfl
theorem deps_sup (cls : List Nat) : ∀ (es : List Edge) (m k : Nat), bit m k = true → bit (deps cls es m) k = true
  | [], m, k, h => h
  | e :: es, m, k, h => by
    rw [deps_cons]
    cases Region.binds .any e with
    | false => exact deps_sup cls es m k h
    | true => exact deps_sup cls es _ k (by rw [bit_lor, h]; rfl)
theorem deps_edge (cls : List Nat) : ∀ (es : List Edge) (m : Nat) (e : Edge), e ∈ es → Region.binds .any e = true → bit (deps cls es m) e.on = true
  | [], m, e, h, _ => by cases h
  | e' :: es, m, e, h, hb => by
    rw [deps_cons]
    rcases List.mem_cons.1 h with rfl | h
    · rw [hb]
      exact deps_sup cls es _ _ (by rw [bit_lor, bit_lor, bit_pow]; simp)
    · cases Region.binds .any e' with
      | false => exact deps_edge cls es m e h hb
      | true => exact deps_edge cls es _ e h hb
theorem deps_sub (cls : List Nat) : ∀ (es : List Edge) (m k : Nat), bit (deps cls es m) k = true → bit m k = true ∨ ∃ e ∈ es, Region.binds .any e = true ∧ (e.on = k ∨ bit ((getL cls e.on).getD 0) k = true)
  | [], m, k, h => .inl h
  | e :: es, m, k, h => by
    rw [deps_cons] at h
    cases hb : Region.binds .any e with
    | false =>
      rw [hb] at h
      rcases deps_sub cls es m k h with h1 | ⟨e', h1, h2⟩
      · exact .inl h1
      · exact .inr ⟨e', List.mem_cons_of_mem _ h1, h2⟩
    | true =>
      rw [hb] at h
      rcases deps_sub cls es _ k h with h1 | ⟨e', h1, h2⟩
      · rw [bit_lor, bit_lor, bit_pow] at h1
        simp only [Bool.or_eq_true, decide_eq_true_eq] at h1
        rcases h1 with h1 | h1 | h1
        · exact .inl h1
        · exact .inr ⟨e, List.mem_cons_self, hb, .inl h1⟩
        · exact .inr ⟨e, List.mem_cons_self, hb, .inr h1⟩
      · exact .inr ⟨e', List.mem_cons_of_mem _ h1, h2⟩
theorem clsOf_cons (o : Oper) (l : List Oper) (acc : List Nat) : clsOf (o :: l) acc = clsOf l (acc ++ [deps acc o.after.toList 0]) := by
  show forceN (deps acc o.after.toList 0) (fun m => clsOf l (appL acc [m])) = _
  rw [forceN_eq, appL_eq]
theorem clsOf_pre : ∀ (l : List Oper) (acc : List Nat), (clsOf l acc).take acc.length = acc
  | [], acc => List.take_length
  | o :: l, acc => by
    rw [clsOf_cons]
    have h := clsOf_pre l (acc ++ [deps acc o.after.toList 0])
    have h2 := congrArg (List.take acc.length) h
    rw [List.take_take, List.take_left, Nat.min_eq_left (by simp)] at h2
    exact h2
theorem clsOf_at : ∀ (l : List Oper) (acc : List Nat) (i : Nat) (o : Oper), l[i]? = some o → getL (clsOf l acc) (acc.length + i) = some (deps ((clsOf l acc).take (acc.length + i)) o.after.toList 0)
  | [], acc, i, o, h => by simp at h
  | o' :: l, acc, 0, o, h => by
    simp only [List.getElem?_cons_zero, Option.some.injEq] at h
    subst h
    rw [clsOf_cons, Nat.add_zero, getL_eq]
    have h1 := clsOf_pre l (acc ++ [deps acc o'.after.toList 0])
    have h2 := congrArg (List.take acc.length) h1
    rw [List.take_take, List.take_left, List.length_append, Nat.min_eq_left (by omega)] at h2
    rw [h2]
    have h3 := congrArg (fun x => x[acc.length]?) h1
    simp only [List.length_append, List.length_singleton] at h3
    rw [List.getElem?_take_of_lt (by omega)] at h3
    rw [h3]
    simp
  | o' :: l, acc, i + 1, o, h => by
    rw [clsOf_cons]
    have := clsOf_at l (acc ++ [deps acc o'.after.toList 0]) i o (by simpa using h)
    rw [List.length_append, List.length_singleton, show acc.length + 1 + i = acc.length + (i + 1) by omega] at this
    exact this
section
variable {ops : List Oper}
theorem cls_at {i : Nat} {o : Oper} (h : ops[i]? = some o) : clAt (clsOf ops []) i = deps ((clsOf ops []).take i) o.after.toList 0 := by
  have := clsOf_at ops [] i o h
  simp only [List.length_nil, Nat.zero_add] at this
  unfold clAt
  rw [this]
  rfl
theorem cls_sub {i k : Nat} {o : Oper} (h : ops[i]? = some o) (hb : bit (clAt (clsOf ops []) i) k = true) : ∃ e ∈ o.after, Region.binds .any e = true ∧ (e.on = k ∨ bit (clAt (clsOf ops []) e.on) k = true) := by
  rw [cls_at h] at hb
  rcases deps_sub _ _ _ _ hb with h1 | ⟨e, h1, h2, h3⟩
  · rw [bit_zero] at h1; cases h1
  · refine ⟨e, by simpa using h1, h2, h3.imp id fun h4 => ?_⟩
    rw [getL_eq, List.getElem?_take] at h4
    split at h4
    · unfold clAt
      rw [getL_eq]
      exact h4
    · simp [bit_zero] at h4
theorem cls_edge {i : Nat} {o : Oper} {e : Edge} (h : ops[i]? = some o) (he : e ∈ o.after) (hb : Region.binds .any e = true) : bit (clAt (clsOf ops []) i) e.on = true := by
  rw [cls_at h]
  exact deps_edge _ _ _ e (by simpa using he) hb
structure Ordered (ops : List Oper) (cls : List Nat) : Prop where
  lt : ∀ i, i < ops.length → ∀ k, bit (clAt cls i) k = true → k < i
  tr : ∀ i, i < ops.length → ∀ k j, bit (clAt cls i) k = true → bit (clAt cls k) j = true → bit (clAt cls i) j = true
  ap : ∀ i k oi ok d, i ≠ k → ops[i]? = some oi → ops[k]? = some ok → ok.dst = some d → oi.dst ≠ some d ∧ (bit (clAt cls i) k = true ∨ bit (clAt cls k) i = true ∨ d ∉ reads ops oi)
theorem ordered_of {cls : List Nat} (h1 : orderB cls ops.length = true) (h2 : apartB ops cls = true) : Ordered ops cls := by
  unfold orderB at h1
  rw [List.all_eq_true] at h1
  have key : ∀ i, i < ops.length → clAt cls i < 2 ^ i ∧ ∀ k, k < ops.length → bit (clAt cls i) k = true → Nat.lor (clAt cls k) (clAt cls i) = clAt cls i := fun i hi => by
    have := h1 i (List.mem_range.2 hi)
    rw [Bool.and_eq_true, List.all_eq_true] at this
    obtain ⟨a, b⟩ := this
    refine ⟨ble_nat a, fun k hk hb => ?_⟩
    have := b k (List.mem_range.2 hk)
    rw [hb] at this
    exact beq_nat (by simpa using this)
  have hlt : ∀ i, i < ops.length → ∀ k, bit (clAt cls i) k = true → k < i := fun i hi k hb => bit_lt (key i hi).1 hb
  refine ⟨hlt, fun i hi k j hk hj => ?_, fun i k oi ok d hne hi hk hd => ?_⟩
  · have hki := hlt i hi k hk
    have := (key i hi).2 k (by omega) hk
    rw [← this, bit_lor, hj]
    rfl
  · unfold apartB at h2
    rw [List.all_eq_true] at h2
    have hi' := (List.getElem?_eq_some_iff.1 hi).1
    have hk' := (List.getElem?_eq_some_iff.1 hk).1
    have := h2 i (List.mem_range.2 hi')
    rw [List.all_eq_true] at this
    have := this k (List.mem_range.2 hk')
    rw [getL_eq, getL_eq, hi, hk] at this
    simp only [hd, Bool.or_eq_true, beq_iff_eq, hne, false_or, Bool.and_eq_true, bne_iff_ne, ne_eq, Bool.not_eq_true', List.contains_eq_mem, decide_eq_false_iff_not] at this
    exact ⟨this.1, by rcases this.2 with (h | h) | h <;> simp [h]⟩
theorem tailN_spec (cls : List Nat) : ∀ (m : Nat), tailN cls m ≤ m ∧ ∀ j, tailN cls m ≤ j → j < m → ∀ i, i < j → bit (clAt cls j) i = true
  | 0 => ⟨Nat.le_refl _, fun j _ h => by omega⟩
  | m + 1 => by
    unfold tailN
    split
    · rename_i hall
      obtain ⟨h1, h2⟩ := tailN_spec cls m
      refine ⟨by omega, fun j hj hjm i hi => ?_⟩
      by_cases e : j = m
      · subst e
        rw [List.all_eq_true] at hall
        exact hall i (List.mem_range.2 hi)
      · exact h2 j hj (by omega) i hi
    · exact ⟨Nat.le_refl _, fun j hj hjm => by omega⟩
end
end Go.Proofs.Ytbfepedjnlcgkaa.Pe
