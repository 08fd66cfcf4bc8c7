/- Regions that draw their order: the sets of what an operation stands behind. Regions that draw their order: the run in the order in which they are listed. Regions that draw their order: what holds when some of the operations have been carried out. Regions that draw their order: one more operation. Regions that draw their order: what one more operation leaves. Regions that draw their order: one more operation, as it runs. -/
import Derived.Test.YtbfepedjnlcgkaaPeRun4
import Derived.Orders
set_option linter.unusedVariables false
namespace Go.Proofs.Ytbfepedjnlcgkaa.Pe
open Go.RowKit
theorem bit_eq (m n : Nat) : bit m n = m.testBit n := by
  unfold bit
  rw [beq_eq, Nat.testBit_eq_decide_div_mod_eq]
  have h1 : Nat.land (Nat.shiftRight m n) 1 = (m >>> n) &&& 1 := rfl
  rw [h1, Nat.and_one_is_mod, Nat.shiftRight_eq_div_pow]
theorem bit_lor (a b k : Nat) : bit (Nat.lor a b) k = (bit a k || bit b k) := by
  rw [bit_eq, bit_eq, bit_eq]
  exact Nat.testBit_or a b k
theorem bit_pow (n k : Nat) : bit (Nat.pow 2 n) k = decide (n = k) := by
  rw [bit_eq]
  exact Nat.testBit_two_pow
theorem bit_zero (k : Nat) : bit 0 k = false := by rw [bit_eq]; simp
theorem bit_lt {m n k : Nat} (h : m < 2 ^ n) (hb : bit m k = true) : k < n := by
  rw [bit_eq] at hb
  have := Nat.ge_two_pow_of_testBit hb
  rcases Nat.lt_or_ge k n with h1 | h1
  · exact h1
  · have : 2 ^ n ≤ 2 ^ k := Nat.pow_le_pow_right (by omega) h1
    omega
theorem deps_cons (cls : List Nat) (e : Edge) (es : List Edge) (m : Nat) : deps cls (e :: es) m = (bif Region.binds .any e then deps cls es (Nat.lor m (Nat.lor (Nat.pow 2 e.on) ((getL cls e.on).getD 0))) else deps cls es m) := rfl
theorem deps_sup (cls : List Nat) : ∀ (es : List Edge) (m k : Nat), bit m k = true → bit (deps cls es m) k = true
  | [], m, k, h => h
  | e :: es, m, k, h => by
    rw [deps_cons]
    cases Region.binds .any e with
    | false => exact deps_sup cls es m k h
    | true => exact deps_sup cls es _ k (by rw [bit_lor, h]; rfl)
theorem deps_edge (cls : List Nat) : ∀ (es : List Edge) (m : Nat) (e : Edge), e ∈ es → Region.binds .any e = true → bit (deps cls es m) e.on = true
  | [], m, e, h, _ => by cases h
  | e' :: es, m, e, h, hb => by
    rw [deps_cons]
    rcases List.mem_cons.1 h with rfl | h
    · rw [hb]
      exact deps_sup cls es _ _ (by rw [bit_lor, bit_lor, bit_pow]; simp)
    · cases Region.binds .any e' with
      | false => exact deps_edge cls es m e h hb
      | true => exact deps_edge cls es _ e h hb
theorem deps_sub (cls : List Nat) : ∀ (es : List Edge) (m k : Nat), bit (deps cls es m) k = true → bit m k = true ∨ ∃ e ∈ es, Region.binds .any e = true ∧ (e.on = k ∨ bit ((getL cls e.on).getD 0) k = true)
  | [], m, k, h => .inl h
  | e :: es, m, k, h => by
    rw [deps_cons] at h
    cases hb : Region.binds .any e with
    | false =>
      rw [hb] at h
      rcases deps_sub cls es m k h with h1 | ⟨e', h1, h2⟩
      · exact .inl h1
      · exact .inr ⟨e', List.mem_cons_of_mem _ h1, h2⟩
    | true =>
      rw [hb] at h
      rcases deps_sub cls es _ k h with h1 | ⟨e', h1, h2⟩
      · rw [bit_lor, bit_lor, bit_pow] at h1
        simp only [Bool.or_eq_true, decide_eq_true_eq] at h1
        rcases h1 with h1 | h1 | h1
        · exact .inl h1
        · exact .inr ⟨e, List.mem_cons_self, hb, .inl h1⟩
        · exact .inr ⟨e, List.mem_cons_self, hb, .inr h1⟩
      · exact .inr ⟨e', List.mem_cons_of_mem _ h1, h2⟩
theorem clsOf_cons (o : Oper) (l : List Oper) (acc : List Nat) : clsOf (o :: l) acc = clsOf l (acc ++ [deps acc o.after.toList 0]) := by
  show forceN (deps acc o.after.toList 0) (fun m => clsOf l (appL acc [m])) = _
  rw [forceN_eq, appL_eq]
theorem clsOf_pre : ∀ (l : List Oper) (acc : List Nat), (clsOf l acc).take acc.length = acc
  | [], acc => List.take_length
  | o :: l, acc => by
    rw [clsOf_cons]
    have h := clsOf_pre l (acc ++ [deps acc o.after.toList 0])
    have h2 := congrArg (List.take acc.length) h
    rw [List.take_take, List.take_left, Nat.min_eq_left (by simp)] at h2
    exact h2
theorem clsOf_at : ∀ (l : List Oper) (acc : List Nat) (i : Nat) (o : Oper), l[i]? = some o → getL (clsOf l acc) (acc.length + i) = some (deps ((clsOf l acc).take (acc.length + i)) o.after.toList 0)
  | [], acc, i, o, h => by simp at h
  | o' :: l, acc, 0, o, h => by
    simp only [List.getElem?_cons_zero, Option.some.injEq] at h
    subst h
    rw [clsOf_cons, Nat.add_zero, getL_eq]
    have h1 := clsOf_pre l (acc ++ [deps acc o'.after.toList 0])
    have h2 := congrArg (List.take acc.length) h1
    rw [List.take_take, List.take_left, List.length_append, Nat.min_eq_left (by omega)] at h2
    rw [h2]
    have h3 := congrArg (fun x => x[acc.length]?) h1
    simp only [List.length_append, List.length_singleton] at h3
    rw [List.getElem?_take_of_lt (by omega)] at h3
    rw [h3]
    simp
  | o' :: l, acc, i + 1, o, h => by
    rw [clsOf_cons]
    have := clsOf_at l (acc ++ [deps acc o'.after.toList 0]) i o (by simpa using h)
    rw [List.length_append, List.length_singleton, show acc.length + 1 + i = acc.length + (i + 1) by omega] at this
    exact this
section
variable {ops : List Oper}
theorem cls_at {i : Nat} {o : Oper} (h : ops[i]? = some o) : clAt (clsOf ops []) i = deps ((clsOf ops []).take i) o.after.toList 0 := by
  have := clsOf_at ops [] i o h
  simp only [List.length_nil, Nat.zero_add] at this
  unfold clAt
  rw [this]
  rfl
theorem cls_sub {i k : Nat} {o : Oper} (h : ops[i]? = some o) (hb : bit (clAt (clsOf ops []) i) k = true) : ∃ e ∈ o.after, Region.binds .any e = true ∧ (e.on = k ∨ bit (clAt (clsOf ops []) e.on) k = true) := by
  rw [cls_at h] at hb
  rcases deps_sub _ _ _ _ hb with h1 | ⟨e, h1, h2, h3⟩
  · rw [bit_zero] at h1; cases h1
  · refine ⟨e, by simpa using h1, h2, h3.imp id fun h4 => ?_⟩
    rw [getL_eq, List.getElem?_take] at h4
    split at h4
    · unfold clAt
      rw [getL_eq]
      exact h4
    · simp [bit_zero] at h4
theorem cls_edge {i : Nat} {o : Oper} {e : Edge} (h : ops[i]? = some o) (he : e ∈ o.after) (hb : Region.binds .any e = true) : bit (clAt (clsOf ops []) i) e.on = true := by
  rw [cls_at h]
  exact deps_edge _ _ _ e (by simpa using he) hb
structure Ordered (ops : List Oper) (cls : List Nat) : Prop where
  lt : ∀ i, i < ops.length → ∀ k, bit (clAt cls i) k = true → k < i
  tr : ∀ i, i < ops.length → ∀ k j, bit (clAt cls i) k = true → bit (clAt cls k) j = true → bit (clAt cls i) j = true
  ap : ∀ i k oi ok d, i ≠ k → ops[i]? = some oi → ops[k]? = some ok → ok.dst = some d → oi.dst ≠ some d ∧ (bit (clAt cls i) k = true ∨ bit (clAt cls k) i = true ∨ d ∉ reads ops oi)
theorem ordered_of {cls : List Nat} (h1 : orderB cls ops.length = true) (h2 : apartB ops cls = true) : Ordered ops cls := by
  unfold orderB at h1
  rw [List.all_eq_true] at h1
  have key : ∀ i, i < ops.length → clAt cls i < 2 ^ i ∧ ∀ k, k < ops.length → bit (clAt cls i) k = true → Nat.lor (clAt cls k) (clAt cls i) = clAt cls i := fun i hi => by
    have := h1 i (List.mem_range.2 hi)
    rw [Bool.and_eq_true, List.all_eq_true] at this
    obtain ⟨a, b⟩ := this
    refine ⟨ble_nat a, fun k hk hb => ?_⟩
    have := b k (List.mem_range.2 hk)
    rw [hb] at this
    exact beq_nat (by simpa using this)
  have hlt : ∀ i, i < ops.length → ∀ k, bit (clAt cls i) k = true → k < i := fun i hi k hb => bit_lt (key i hi).1 hb
  refine ⟨hlt, fun i hi k j hk hj => ?_, fun i k oi ok d hne hi hk hd => ?_⟩
  · have hki := hlt i hi k hk
    have := (key i hi).2 k (by omega) hk
    rw [← this, bit_lor, hj]
    rfl
  · unfold apartB at h2
    rw [List.all_eq_true] at h2
    have hi' := (List.getElem?_eq_some_iff.1 hi).1
    have hk' := (List.getElem?_eq_some_iff.1 hk).1
    have := h2 i (List.mem_range.2 hi')
    rw [List.all_eq_true] at this
    have := this k (List.mem_range.2 hk')
    rw [getL_eq, getL_eq, hi, hk] at this
    simp only [hd, Bool.or_eq_true, beq_iff_eq, hne, false_or, Bool.and_eq_true, bne_iff_ne, ne_eq, Bool.not_eq_true', List.contains_eq_mem, decide_eq_false_iff_not] at this
    exact ⟨this.1, by rcases this.2 with (h | h) | h <;> simp [h]⟩
theorem tailN_spec (cls : List Nat) : ∀ (m : Nat), tailN cls m ≤ m ∧ ∀ j, tailN cls m ≤ j → j < m → ∀ i, i < j → bit (clAt cls j) i = true
  | 0 => ⟨Nat.le_refl _, fun j _ h => by omega⟩
  | m + 1 => by
    unfold tailN
    split
    · rename_i hall
      obtain ⟨h1, h2⟩ := tailN_spec cls m
      refine ⟨by omega, fun j hj hjm i hi => ?_⟩
      by_cases e : j = m
      · subst e
        rw [List.all_eq_true] at hall
        exact hall i (List.mem_range.2 hi)
      · exact h2 j hj (by omega) i hi
    · exact ⟨Nat.le_refl _, fun j hj hjm => by omega⟩
end
end Go.Proofs.Ytbfepedjnlcgkaa.Pe
set_option linter.unusedVariables false
namespace Go.Proofs.Ytbfepedjnlcgkaa.Pe
open Go.RowKit
section
variable {T : Tys} {call : CallF} {ops : List Oper} {H0 : Heap} {cls : List Nat}
noncomputable def viewAt (H0 : Heap) (cls : List Nat) (i : Nat) (r : Rg) : Heap := freeze H0 ++ freeze (viewN (clAt cls i) r.own r.upd r.N)
noncomputable def stepR (T : Tys) (call : CallF) (ops : List Oper) (H0 : Heap) (cls : List Nat) (i : Nat) (o : Oper) (r : Rg) : Option Rg :=
  match o.op with
  | .store t a x => evLocal T ops H0 cls i o t a x r
  | _ => match evStep T call ops o r.tm (viewAt H0 cls i r) with
    | some (v, H') => match putT r.tm o.dst v with
      | some tm' => some ⟨tm', r.own ++ List.replicate (H'.drop (H0.length + r.N.length)).length i, r.upd ++ List.replicate (H'.drop (H0.length + r.N.length)).length none, r.N ++ H'.drop (H0.length + r.N.length)⟩
      | none => none
    | none => none
theorem evAny_cons (o : Oper) (l : List Oper) (i : Nat) (r : Rg) : evAny T call ops H0 cls (o :: l) i r = (match stepR T call ops H0 cls i o r with
    | some r' => evAny T call ops H0 cls l (i + 1) r'
    | none => none) := by
  have h : evAny T call ops H0 cls (o :: l) i r = (match o.op with
      | .store t a x => match evLocal T ops H0 cls i o t a x r with
        | some r' => evAny T call ops H0 cls l (i + 1) r'
        | none => none
      | _ => match evStep T call ops o r.tm (appL (freeze H0) (freeze (viewN (clAt cls i) r.own r.upd r.N))) with
        | some (v, H') => forceV v fun v => match putT r.tm o.dst v with
          | some tm' => evAny T call ops H0 cls l (i + 1) ⟨tm', appL r.own (List.replicate (dropL H' (H0.length + r.N.length)).length i), appL r.upd (List.replicate (dropL H' (H0.length + r.N.length)).length none), appL r.N (dropL H' (H0.length + r.N.length))⟩
          | none => none
        | none => none) := rfl
  rw [h]
  unfold stepR viewAt
  split
  · rfl
  · rw [appL_eq]
    cases hv : evStep T call ops o r.tm (freeze H0 ++ freeze (viewN (clAt cls i) r.own r.upd r.N)) with
    | none => rfl
    | some p =>
      obtain ⟨v, H'⟩ := p
      simp only [forceV_eq, appL_eq, dropL_eq]
      cases hp : putT r.tm o.dst v with
      | none => rfl
      | some tm' => rfl
theorem evAny_chain : ∀ (l : List Oper) (i : Nat) (r rf : Rg), evAny T call ops H0 cls l i r = some rf → ∃ R : Nat → Rg, R 0 = r ∧ R l.length = rf ∧ ∀ j o, l[j]? = some o → stepR T call ops H0 cls (i + j) o (R j) = some (R (j + 1))
  | [], i, r, rf, h => by cases h; exact ⟨fun _ => r, rfl, rfl, fun j o h => by simp at h⟩
  | o :: l, i, r, rf, h => by
    rw [evAny_cons] at h
    split at h
    · rename_i r' hs
      obtain ⟨R, h1, h2, h3⟩ := evAny_chain l (i + 1) r' rf h
      refine ⟨fun j => match j with
        | 0 => r
        | j + 1 => R j, rfl, h2, fun j o' hj => ?_⟩
      cases j with
      | zero =>
        simp only [List.getElem?_cons_zero, Option.some.injEq] at hj
        subst hj
        show stepR T call ops H0 cls (i + 0) o r = some (R 0)
        rw [Nat.add_zero, h1]
        exact hs
      | succ j =>
        have := h3 j o' (by simpa using hj)
        rw [show i + 1 + j = i + (j + 1) by omega] at this
        exact this
    · cases h
/-- What a step leaves of the tables. -/
structure Grown (i : Nat) (r r' : Rg) : Prop where
  lens : r.own.length = r.N.length ∧ r.upd.length = r.N.length → r'.own.length = r'.N.length ∧ r'.upd.length = r'.N.length
  how : (∃ B : Heap, r'.own = r.own ++ List.replicate B.length i ∧ r'.upd = r.upd ++ List.replicate B.length none ∧ r'.N = r.N ++ B) ∨
    (∃ (x : Nat) (b b' : Bk), r.N[x]? = some b ∧ r.upd[x]? = some none ∧ r'.own = r.own ∧ r'.upd = r.upd.set x (some i) ∧ r'.N = r.N.set x b' ∧ b'.gb = b.gb)
/-- A store into a block of the region. -/
structure Loc (T : Tys) (ops : List Oper) (H0 : Heap) (cls : List Nat) (i : Nat) (o : Oper) (r r' : Rg) (x : Nat) (t : TypeId) (pa px : Operand) (off m n : Nat) (cs ys cs' : List C) (v : V) (k : Nat) : Prop where
  op : o.op = .store t pa px
  want : wantedE ops o r.tm = some true
  pa : opnd r.tm pa = some (.c (.p (H0.length + x) off))
  px : opnd r.tm px = some v
  cells : v.cells = some (n, ys)
  ty : ∃ ti, tyAt T t = some ti ∧ n = ti.size
  blk : r.N[x]? = some (.var true m cs)
  own : r.own[x]? = some k
  upd : r.upd[x]? = some none
  sees : bit (clAt cls i) k = true
  ahead : ∀ j, j < i → bit (clAt cls j) k = true → bit (clAt cls i) j = true
  spl : splice m cs off n ys = some cs'
  own' : r'.own = r.own
  upd' : r'.upd = r.upd.set x (some i)
  N' : r'.N = r.N.set x (.var true m cs')
  tm' : putT r.tm o.dst (.c .un) = some r'.tm
theorem stepR_store {i : Nat} {o : Oper} {r r' : Rg} {t : TypeId} {pa px : Operand} (ho : o.op = .store t pa px) (h : stepR T call ops H0 cls i o r = some r') : ∃ x off m n cs ys cs' v k, Loc T ops H0 cls i o r r' x t pa px off m n cs ys cs' v k := by
  unfold stepR at h
  rw [ho] at h
  simp only [evLocal] at h
  split at h
  · rename_i id off v ti hw hpa hpx hti
    split at h
    · rename_i n ys hc
      have hq := (bif_some h).1
      replace h := (bif_some h).2
      simp only [Bool.and_eq_true] at hq
      have q1 := beq_nat hq.1
      have q2 := ble_nat hq.2
      split at h
      · rename_i m cs k hN hown hupd
        have hq2 := (bif_some h).1
        replace h := (bif_some h).2
        simp only [Bool.and_eq_true, List.all_eq_true, List.mem_range, Bool.or_eq_true, Bool.not_eq_true'] at hq2
        split at h
        · rename_i cs' hs
          split at h
          · rename_i N' upd' tm' h1 h2 h3
            cases h
            rw [getL_eq] at hN hown hupd
            obtain ⟨e1, _⟩ := setL_some _ _ _ _ h1
            obtain ⟨e2, _⟩ := setL_some _ _ _ _ h2
            have hid : H0.length + (id - H0.length) = id := by omega
            refine ⟨id - H0.length, off, m, n, cs, ys, cs', v, k, ⟨ho, hw, by rw [hid]; exact hpa, hpx, hc, ⟨ti, hti, q1⟩, hN, hown, hupd, hq2.1, fun j hj hb => ?_, hs, rfl, e2, e1, h3⟩⟩
            rcases hq2.2 j hj with h | h
            · rw [hb] at h; cases h
            · exact h
          · cases h
        · cases h
      · cases h
      
    · cases h
  · cases h
theorem stepR_other {i : Nat} {o : Oper} {r r' : Rg} (ho : ∀ t pa px, o.op ≠ .store t pa px) (h : stepR T call ops H0 cls i o r = some r') : ∃ v H', evStep T call ops o r.tm (viewAt H0 cls i r) = some (v, H') ∧ putT r.tm o.dst v = some r'.tm ∧
    r'.own = r.own ++ List.replicate (H'.drop (H0.length + r.N.length)).length i ∧ r'.upd = r.upd ++ List.replicate (H'.drop (H0.length + r.N.length)).length none ∧ r'.N = r.N ++ H'.drop (H0.length + r.N.length) := by
  unfold stepR at h
  split at h
  · rename_i t pa px hs
    exact absurd hs (ho t pa px)
  · split at h
    · rename_i v H' hv
      split at h
      · rename_i tm' hp
        cases h
        exact ⟨v, H', hv, hp, rfl, rfl, rfl⟩
      · cases h
    · cases h
theorem stepR_grown {i : Nat} {o : Oper} {r r' : Rg} (h : stepR T call ops H0 cls i o r = some r') : Grown i r r' := by
  by_cases ho : ∃ t pa px, o.op = .store t pa px
  · obtain ⟨t, pa, px, ho⟩ := ho
    obtain ⟨x, off, m, n, cs, ys, cs', v, k, L⟩ := stepR_store ho h
    refine ⟨fun ⟨h1, h2⟩ => ?_, .inr ⟨x, _, _, L.blk, L.upd, L.own', L.upd', L.N', rfl⟩⟩
    rw [L.own', L.upd', L.N']
    simp [h1, h2]
  · obtain ⟨v, H', _, _, h1, h2, h3⟩ := stepR_other (fun t pa px e => ho ⟨t, pa, px, e⟩) h
    refine ⟨fun ⟨g1, g2⟩ => ?_, .inl ⟨_, h1, h2, h3⟩⟩
    rw [h1, h2, h3]
    simp [g1, g2]
/-- The tables, from step to step. -/
structure Tab (R : Nat → Rg) (n : Nat) : Prop where
  start : (R 0).own = [] ∧ (R 0).upd = [] ∧ (R 0).N = []
  grown : ∀ i, i < n → Grown i (R i) (R (i + 1))
section
variable {R : Nat → Rg} {n : Nat}
theorem Tab.lens (h : Tab R n) : ∀ i, i ≤ n → (R i).own.length = (R i).N.length ∧ (R i).upd.length = (R i).N.length
  | 0, _ => by rw [h.start.1, h.start.2.1, h.start.2.2]; simp
  | i + 1, hi => (h.grown i (by omega)).lens (h.lens i (by omega))
/-- From a step to a later one. -/
structure Far (R : Nat → Rg) (i j : Nat) : Prop where
  len : (R i).N.length ≤ (R j).N.length
  own : ∀ x, x < (R i).N.length → (R j).own[x]? = (R i).own[x]?
  new : ∀ x y, (R i).N.length ≤ x → (R j).own[x]? = some y → i ≤ y ∧ y < j
  gb : ∀ (x : Nat) (b : Bk), (R i).N[x]? = some b → ∃ b' : Bk, (R j).N[x]? = some b' ∧ b'.gb = b.gb
  upd : ∀ x, x < (R i).N.length → ((R j).upd[x]? = (R i).upd[x]? ∧ (R j).N[x]? = (R i).N[x]?) ∨ ((R i).upd[x]? = some none ∧ ∃ u, i ≤ u ∧ u < j ∧ (R j).upd[x]? = some (some u) ∧ (R u).N[x]? = (R i).N[x]? ∧ (R (u + 1)).N[x]? = (R j).N[x]? ∧ (R u).upd[x]? = some none ∧ (R (u + 1)).upd[x]? = some (some u))
theorem Tab.far (h : Tab R n) (i : Nat) : ∀ d, i + d ≤ n → Far R i (i + d)
  | 0, hd => ⟨Nat.le_refl _, fun _ _ => rfl, fun x y hx hy => by
      have hl := (h.lens i (by omega)).1
      have := (List.getElem?_eq_some_iff.1 hy).1
      simp only [Nat.add_zero] at this
      omega, fun x b hb => ⟨b, hb, rfl⟩, fun _ _ => .inl ⟨rfl, rfl⟩⟩
  | d + 1, hd => by
    have ih := h.far i d (by omega)
    have hlj := h.lens (i + d) (by omega)
    have g := h.grown (i + d) (by omega)
    rw [show i + (d + 1) = i + d + 1 by omega]
    rcases g.how with ⟨B, g1, g2, g3⟩ | ⟨x0, b0, b0', g1, g2, g3, g4, g5, g6⟩
    · have hx : ∀ x, x < (R i).N.length → x < (R (i + d)).N.length := fun x hx => Nat.lt_of_lt_of_le hx ih.len
      refine ⟨by rw [g3, List.length_append]; have := ih.len; omega, fun x hx' => ?_, fun x y hx' hy => ?_, fun x b hb => ?_, fun x hx' => ?_⟩
      · rw [g1, List.getElem?_append_left (by rw [hlj.1]; exact hx x hx')]
        exact ih.own x hx'
      · rw [g1] at hy
        by_cases hlt : x < (R (i + d)).own.length
        · rw [List.getElem?_append_left hlt] at hy
          have := ih.new x y hx' hy
          omega
        · rw [List.getElem?_append_right (by omega), List.getElem?_replicate] at hy
          split at hy
          · cases hy; omega
          · cases hy
      · obtain ⟨b', h1, h2⟩ := ih.gb x b hb
        refine ⟨b', ?_, h2⟩
        rw [g3, List.getElem?_append_left (List.getElem?_eq_some_iff.1 h1).1]
        exact h1
      · have e1 : (R (i + d + 1)).upd[x]? = (R (i + d)).upd[x]? := by rw [g2, List.getElem?_append_left (by rw [hlj.2]; exact hx x hx')]
        have e2 : (R (i + d + 1)).N[x]? = (R (i + d)).N[x]? := by rw [g3, List.getElem?_append_left (hx x hx')]
        rcases ih.upd x hx' with ⟨u1, u2⟩ | ⟨u1, u, u2, u3, u4, u5, u6, u7⟩
        · exact .inl ⟨e1.trans u1, e2.trans u2⟩
        · exact .inr ⟨u1, u, u2, by omega, e1.trans u4, u5, u6.trans e2.symm, u7⟩
    · refine ⟨by rw [g5, List.length_set]; exact ih.len, fun x hx' => by rw [g3]; exact ih.own x hx', fun x y hx' hy => ?_, fun x b hb => ?_, fun x hx' => ?_⟩
      · rw [g3] at hy
        have := ih.new x y hx' hy
        omega
      · obtain ⟨b', h1, h2⟩ := ih.gb x b hb
        by_cases e : x = x0
        · subst e
          rw [g1] at h1
          cases h1
          refine ⟨b0', ?_, g6.trans h2⟩
          rw [g5]
          simp [(List.getElem?_eq_some_iff.1 g1).1]
        · refine ⟨b', ?_, h2⟩
          rw [g5, List.getElem?_set_ne (fun h => e h.symm)]
          exact h1
      · by_cases e : x = x0
        · subst e
          rcases ih.upd x hx' with ⟨u1, u2⟩ | ⟨u1, u, u2, u3, u4, u5, u6, u7⟩
          · have e9 : (R (i + d + 1)).upd[x]? = some (some (i + d)) := by
              rw [g4]
              simp [(List.getElem?_eq_some_iff.1 g2).1]
            exact .inr ⟨by rw [← u1]; exact g2, i + d, by omega, by omega, e9, u2, rfl, g2, e9⟩
          · rw [g2] at u4
            cases u4
        · have e1 : (R (i + d + 1)).upd[x]? = (R (i + d)).upd[x]? := by rw [g4, List.getElem?_set_ne (fun h => e h.symm)]
          have e2 : (R (i + d + 1)).N[x]? = (R (i + d)).N[x]? := by rw [g5, List.getElem?_set_ne (fun h => e h.symm)]
          rcases ih.upd x hx' with ⟨u1, u2⟩ | ⟨u1, u, u2, u3, u4, u5, u6, u7⟩
          · exact .inl ⟨e1.trans u1, e2.trans u2⟩
          · exact .inr ⟨u1, u, u2, by omega, e1.trans u4, u5, u6.trans e2.symm, u7⟩
theorem Tab.far' (h : Tab R n) {i j : Nat} (hij : i ≤ j) (hj : j ≤ n) : Far R i j := by
  have := h.far i (j - i) (by omega)
  rwa [show i + (j - i) = j by omega] at this
/-- An entry was there at a step just if its maker is ahead of the step. -/
theorem Tab.owner (h : Tab R n) {i x y : Nat} (hi : i ≤ n) (hx : (R n).own[x]? = some y) : x < (R i).N.length ↔ y < i := by
  have f := h.far' (Nat.zero_le i) hi
  have g := h.far' hi (Nat.le_refl n)
  constructor
  · intro hlt
    rw [g.own x hlt] at hx
    exact (f.new x y (by rw [h.start.2.2]; simp) hx).2
  · intro hy
    rcases Nat.lt_or_ge x (R i).N.length with h1 | h1
    · exact h1
    · have := g.new x y h1 hx
      omega
end
end
end Go.Proofs.Ytbfepedjnlcgkaa.Pe
set_option linter.unusedVariables false
namespace Go.Proofs.Ytbfepedjnlcgkaa.Pe
open Go.RowKit
theorem Occ_congr {ρ ρ' : Ren} {id : Nat} {b : Bk} {g : Nat} (h : ∀ k, ρ' id k = ρ id k) : Occ ρ' id b g ↔ Occ ρ id b g := by
  cases b <;> simp only [Occ, h]
theorem BRel.move {ρ ρ' : Ren} {H1 H2 : Heap} {id : Nat} {b : Bk} {w : World} (hb : BRel ρ H1 id b w) (h : ∀ k, ρ' id k = ρ id k) (l : Later ρ H1 ρ' H2) : BRel ρ' H2 id b w := by
  cases b with
  | dead => trivial
  | var wr m cells =>
    obtain ⟨h0, g, ty, cs, h1, h2, h3⟩ := hb
    exact ⟨h0, g, ty, cs, (h 0).trans h1, h2, h3.later l⟩
  | row wr cells n lo sz e =>
    obtain ⟨h0, h1, h1', h2⟩ := hb
    refine ⟨h0, h1, h1', fun k a b => ?_⟩
    obtain ⟨xs, h3, h4⟩ := h2 k a b
    exact ⟨xs, h3.later l, by rw [h k]; exact h4⟩
  | ror cells n sz =>
    obtain ⟨h0, h1, A, c, h2, h3, h4⟩ := hb
    refine ⟨h0, h1, A, c, (h n).trans h2, h3, fun hn => ?_⟩
    obtain ⟨ad, xs, a, b, r⟩ := h4 hn
    exact ⟨ad, xs, a, b.later l, r⟩
  | mp wr ks =>
    obtain ⟨g, es, cl, h1, h2⟩ := hb
    exact ⟨g, es, cl, (h 0).trans h1, h2⟩
theorem viewN_get (cl : Nat) : ∀ (ws : List Nat) (us : List (Option Nat)) (bs : Heap) (x w : Nat) (u : Option Nat) (b : Bk), ws[x]? = some w → us[x]? = some u → bs[x]? = some b →
    (viewN cl ws us bs)[x]? = some (bif bit cl w then (bif (match u with
    | none => true
    | some j => bit cl j) then b else .dead b.gb) else .dead 0)
  | [], us, bs, x, w, u, b, h, _, _ => by simp at h
  | _ :: _, [], bs, x, w, u, b, _, h, _ => by simp at h
  | _ :: _, _ :: _, [], x, w, u, b, _, _, h => by simp at h
  | w' :: ws, u' :: us, b' :: bs, 0, w, u, b, h1, h2, h3 => by
    simp only [List.getElem?_cons_zero, Option.some.injEq] at h1 h2 h3
    subst h1; subst h2; subst h3
    rfl
  | w' :: ws, u' :: us, b' :: bs, x + 1, w, u, b, h1, h2, h3 => viewN_get cl ws us bs x w u b (by simpa using h1) (by simpa using h2) (by simpa using h3)
theorem viewN_len (cl : Nat) : ∀ (ws : List Nat) (us : List (Option Nat)) (bs : Heap), ws.length = bs.length → us.length = bs.length → (viewN cl ws us bs).length = bs.length
  | [], [], [], _, _ => rfl
  | w :: ws, u :: us, b :: bs, h1, h2 => by simp only [viewN, List.length_cons]; rw [viewN_len cl ws us bs (by simpa using h1) (by simpa using h2)]
  | [], _, b :: bs, h, _ => by simp at h
  | w :: ws, _, [], h, _ => by simp at h
  | [], u :: us, [], _, h => by simp at h
  | w :: ws, [], b :: bs, _, h => by simp at h
/-- All that stands fast of one region. -/
structure Ctx (P : Program) (T : Tys) (call : CallF) (ops : List Oper) (H : Heap) (tm0 : List V) (n : Nat) (R : Nat → Rg) : Prop where
  hT : TabOk P T
  hcall : CallOk P call
  ord : Ordered ops (clsOf ops [])
  n_le : n ≤ ops.length
  tab : Tab R n
  tm : (R 0).tm = tm0
  steps : ∀ i o, i < n → ops[i]? = some o → stepR T call ops H (clsOf ops []) i o (R i) = some (R (i + 1))
section
variable {P : Program} {T : Tys} {call : CallF} {ops : List Oper} {H : Heap} {tm0 : List V} {n : Nat} {R : Nat → Rg}
/-- What op k stands behind, and itself. -/
noncomputable def Ak (ops : List Oper) (k : Nat) : Nat → Bool := fun y => Nat.beq y k || bit (clAt (clsOf ops []) k) y
noncomputable def Ck (ops : List Oper) (k : Nat) : Nat → Bool := fun y => bit (clAt (clsOf ops []) k) y
/-- Memory as far as values are concerned: the blocks made by some of the operations. -/
def Hst (H : Heap) (r : Rg) (A : Nat → Bool) : Heap := H ++ (List.range r.N.length).map fun x => .dead (match r.own[x]?, r.N[x]? with
  | some y, some b => bif A y then b.gb else 0
  | _, _ => 0)
theorem Gb_Hst {r : Rg} {A : Nat → Bool} {id k : Nat} : Gb (Hst H r A) id k ↔ Gb H id k ∨ ∃ x y b, id = H.length + x ∧ r.own[x]? = some y ∧ r.N[x]? = some b ∧ A y = true ∧ k < b.gb := by
  unfold Hst
  constructor
  · rintro ⟨b, hb, hk⟩
    by_cases hid : id < H.length
    · rw [List.getElem?_append_left hid] at hb
      exact .inl ⟨b, hb, hk⟩
    · rw [List.getElem?_append_right (by omega), List.getElem?_map] at hb
      cases hr : (List.range r.N.length)[id - H.length]? with
      | none => simp [hr] at hb
      | some x =>
        have hx : x = id - H.length := by
          have := (List.getElem?_eq_some_iff.1 hr).2
          simpa using this.symm
        simp only [hr, Option.map_some, Option.some.injEq] at hb
        subst hb
        simp only [Bk.gb] at hk
        split at hk
        · rename_i y b h1 h2
          cases hA : A y with
          | false => simp [hA] at hk
          | true =>
            simp only [hA, cond_true] at hk
            exact .inr ⟨x, y, b, by omega, h1, h2, hA, hk⟩
        · omega
  · rintro (⟨b, hb, hk⟩ | ⟨x, y, b, rfl, h1, h2, hA, hk⟩)
    · exact ⟨b, by rw [List.getElem?_append_left (List.getElem?_eq_some_iff.1 hb).1]; exact hb, hk⟩
    · have hx : x < r.N.length := (List.getElem?_eq_some_iff.1 h2).1
      refine ⟨.dead b.gb, ?_, hk⟩
      rw [List.getElem?_append_right (by omega), Nat.add_sub_cancel_left, List.getElem?_map, List.getElem?_range hx]
      simp [h1, h2, hA]
/-- An entry's block when the operations of S have been carried out. -/
def blkS (R : Nat → Rg) (n : Nat) (S : Nat → Bool) (x : Nat) : Option Bk := match (R n).upd[x]? with
  | some (some u) => if S u = true then (R n).N[x]? else (R u).N[x]?
  | _ => (R n).N[x]?
/-- .. and what its cells may name. -/
noncomputable def wfS (ops : List Oper) (R : Nat → Rg) (n : Nat) (S : Nat → Bool) (x y : Nat) : Nat → Bool := match (R n).upd[x]? with
  | some (some u) => if S u = true then Ak ops u else Ak ops y
  | _ => Ak ops y
structure Inv (ops : List Oper) (H : Heap) (tm0 : List V) (n : Nat) (R : Nat → Rg) (ρ0 : Ren) (w0 : World) (a0 : Act) (S : Nat → Bool) (ρ : Ren) (a : Act) (w : World) : Prop where
  closed : ∀ i, S i = true → ∀ k, bit (clAt (clsOf ops []) i) k = true → S k = true
  heads : ∀ i, S i = true → i < n
  later : Later ρ0 H ρ H
  hb : ∀ (id : Nat) b, H[id]? = some b → BRel ρ H id b w
  hocc : ∀ (id : Nat) b g, H[id]? = some b → Occ ρ id b g → g < w0.heap.size
  below : Below w0.heap.size w0 w
  ent : ∀ (x y : Nat) b, (R n).own[x]? = some y → S y = true → blkS R n S x = some b → BRel ρ (Hst H (R n) (wfS ops R n S x y)) (H.length + x) b w ∧ ∀ g, Occ ρ (H.length + x) b g → w0.heap.size ≤ g
  dis : ∀ (x x' y y' : Nat) b b' g, x ≠ x' → (R n).own[x]? = some y → (R n).own[x']? = some y' → S y = true → S y' = true → blkS R n S x = some b → blkS R n S x' = some b' → b.wr = true → Occ ρ (H.length + x) b g → Occ ρ (H.length + x') b' g → False
  len : tm0.length = a.tmps.size
  t1 : ∀ k, S k = true → ∀ o d v, ops[k]? = some o → o.dst = some d → (R (k + 1)).tm[d]? = some v → VRel ρ (Hst H (R n) (Ak ops k)) v (a.tmps.getD d undef)
  t2 : ∀ (t : Nat) v, tm0[t]? = some v → (∀ k o, S k = true → ops[k]? = some o → o.dst ≠ some t) → VRel ρ H v (a.tmps.getD t undef)
  def_ : a.defers = a0.defers
variable {ρ0 ρ : Ren} {w0 w : World} {a0 a : Act} {S : Nat → Bool}
theorem Ctx.rstep (c : Ctx P T call ops H tm0 n R) {i : Nat} (hi : i < n) : ∃ o, ops[i]? = some o ∧ stepR T call ops H (clsOf ops []) i o (R i) = some (R (i + 1)) := by
  have : i < ops.length := Nat.lt_of_lt_of_le hi c.n_le
  exact ⟨ops[i], by simp [this], c.steps i _ hi (by simp [this])⟩
/-- A temporary ahead of a step: what the last that wrote it left there, or what was there. -/
theorem Ctx.temp (c : Ctx P T call ops H tm0 n R) (t : Nat) : ∀ i, i ≤ n → (∃ k o, k < i ∧ ops[k]? = some o ∧ o.dst = some t ∧ (R i).tm[t]? = (R (k + 1)).tm[t]?) ∨ ((∀ k o, k < i → ops[k]? = some o → o.dst ≠ some t) ∧ (R i).tm[t]? = tm0[t]?)
  | 0, _ => .inr ⟨fun k o h => by omega, by rw [c.tm]⟩
  | i + 1, hi => by
    obtain ⟨o, ho, hs⟩ := c.rstep (i := i) (by omega)
    by_cases hd : o.dst = some t
    · exact .inl ⟨i, o, by omega, ho, hd, rfl⟩
    · have hput : ∃ v, putT (R i).tm o.dst v = some (R (i + 1)).tm := by
        by_cases hst : ∃ t pa px, o.op = .store t pa px
        · obtain ⟨t, pa, px, hst⟩ := hst
          obtain ⟨x, off, m, n, cs, ys, cs', v, k, L⟩ := stepR_store hst hs
          exact ⟨_, L.tm'⟩
        · obtain ⟨v, H', _, h1, _⟩ := stepR_other (fun t pa px e => hst ⟨t, pa, px, e⟩) hs
          exact ⟨v, h1⟩
      obtain ⟨v, hput⟩ := hput
      have hsame : (R (i + 1)).tm[t]? = (R i).tm[t]? := by
        cases hdst : o.dst with
        | none =>
          rw [hdst] at hput
          have e : (R i).tm = (R (i + 1)).tm := Option.some.inj hput
          rw [e]
        | some d =>
          rw [hdst] at hput hd
          obtain ⟨h1, _⟩ := setL_some _ _ _ _ hput
          rw [h1, List.getElem?_set_ne (fun e => hd (by rw [e]))]
      rcases c.temp t i (by omega) with ⟨k, o', h1, h2, h3, h4⟩ | ⟨h1, h2⟩
      · exact .inl ⟨k, o', by omega, h2, h3, hsame.trans h4⟩
      · refine .inr ⟨fun k o' hk hk2 => ?_, hsame.trans h2⟩
        by_cases e : k = i
        · subst e
          rw [ho] at hk2
          cases hk2
          exact hd
        · exact h1 k o' (by omega) hk2
theorem putT_len {tm tm' : List V} {d : Option Tmp} {v : V} (h : putT tm d v = some tm') : tm'.length = tm.length := by
  cases d with
  | none => cases h; rfl
  | some d => rw [(setL_some _ _ _ _ h).1]; simp
/-- An entry that an operation sees, as it sees it. -/
theorem Ctx.sees (c : Ctx P T call ops H tm0 n R) (I : Inv ops H tm0 n R ρ0 w0 a0 S ρ a w) {i : Nat} (hi : i < n) (hS : ∀ k, bit (clAt (clsOf ops []) i) k = true → S k = true) (hn : S i = false) {x y : Nat} {u : Option Nat} {b : Bk}
    (h1 : (R i).own[x]? = some y) (h2 : (R i).upd[x]? = some u) (h3 : (R i).N[x]? = some b) (hy : bit (clAt (clsOf ops []) i) y = true) (hu : ∀ j, u = some j → bit (clAt (clsOf ops []) i) j = true) :
    (R n).own[x]? = some y ∧ S y = true ∧ blkS R n S x = some b ∧ ∀ y', wfS ops R n S x y y' = true → bit (clAt (clsOf ops []) i) y' = true := by
  have hx : x < (R i).N.length := (List.getElem?_eq_some_iff.1 h3).1
  have f := c.tab.far' (Nat.le_of_lt hi) (Nat.le_refl n)
  have hi' : i < ops.length := Nat.lt_of_lt_of_le hi c.n_le
  have hown : (R n).own[x]? = some y := (f.own x hx).trans h1
  have hAk : ∀ k y', bit (clAt (clsOf ops []) i) k = true → Ak ops k y' = true → bit (clAt (clsOf ops []) i) y' = true := fun k y' hk h => by
    simp only [Ak, Bool.or_eq_true] at h
    rcases h with h | h
    · rw [beq_nat h]; exact hk
    · exact c.ord.tr i hi' k y' hk h
  refine ⟨hown, hS y hy, ?_⟩
  rcases f.upd x hx with ⟨u1, u2⟩ | ⟨u1, j, j1, j2, j3, j4, j5, j6, j7⟩
  · unfold blkS wfS
    rw [u1, h2]
    cases u with
    | none => exact ⟨u2.trans h3, fun y' h => hAk y y' hy h⟩
    | some j =>
      have hj := hu j rfl
      simp only [hS j hj, if_true]
      exact ⟨u2.trans h3, fun y' h => hAk j y' hj h⟩
  · -- it is written later: not yet
    have hSj : S j = false := by
      cases hq : S j with
      | false => rfl
      | true =>
        exfalso
        by_cases e : j = i
        · rw [e, hn] at hq; cases hq
        · -- the writer stands behind all that see the entry
          obtain ⟨o, ho, hs⟩ := c.rstep (i := j) j2
          have hst : ∃ t pa px, o.op = .store t pa px := by
            rcases Classical.em (∃ t pa px, o.op = .store t pa px) with h | h
            · exact h
            · exfalso
              obtain ⟨v, H', _, _, _, g2, _⟩ := stepR_other (fun t pa px e => h ⟨t, pa, px, e⟩) hs
              have hlt : x < (R j).upd.length := (List.getElem?_eq_some_iff.1 j6).1
              rw [g2, List.getElem?_append_left hlt, j6] at j7
              cases j7
          obtain ⟨t, pa, px, hst⟩ := hst
          obtain ⟨x', off, m, n', cs, ys, cs', v, k, L⟩ := stepR_store hst hs
          have hxx : x = x' := by
            rcases Nat.decEq x x' with h | h
            · exfalso
              rw [L.upd', List.getElem?_set_ne (fun e => h e.symm), j6] at j7
              cases j7
            · exact h
          subst hxx
          have fj := c.tab.far' (Nat.le_of_lt j2) (Nat.le_refl n)
          have hk : k = y := by
            have := fj.own x (List.getElem?_eq_some_iff.1 L.blk).1
            rw [hown, L.own] at this
            cases this; rfl
          subst hk
          have := L.ahead i (by omega) hy
          have := I.closed j hq i this
          rw [hn] at this
          cases this
    unfold blkS wfS
    rw [j3]
    simp only [hSj, Bool.false_eq_true, if_false]
    exact ⟨j4.trans h3, fun y' h => hAk y y' hy h⟩
end
end Go.Proofs.Ytbfepedjnlcgkaa.Pe
set_option linter.unusedVariables false
namespace Go.Proofs.Ytbfepedjnlcgkaa.Pe
open Go.RowKit
section
variable {P : Program} {T : Tys} {call : CallF} {ops : List Oper} {H : Heap} {tm0 : List V} {n : Nat} {R : Nat → Rg} {ρ0 ρ : Ren} {w0 w : World} {a0 a : Act} {S : Nat → Bool}
theorem Ctx.lens (c : Ctx P T call ops H tm0 n R) {i : Nat} (hi : i ≤ n) : (R i).own.length = (R i).N.length ∧ (R i).upd.length = (R i).N.length := c.tab.lens i hi
theorem Ctx.viewLen (c : Ctx P T call ops H tm0 n R) {i : Nat} (hi : i ≤ n) : (viewAt H (clsOf ops []) i (R i)).length = H.length + (R i).N.length := by
  obtain ⟨h1, h2⟩ := c.lens hi
  unfold viewAt
  rw [List.length_append, freeze_len, freeze_len, viewN_len _ _ _ _ h1 h2]
theorem Ctx.viewOld (c : Ctx P T call ops H tm0 n R) {i id : Nat} (hid : id < H.length) : (viewAt H (clsOf ops []) i (R i))[id]? = (H[id]?).map Bk.frz := by
  unfold viewAt
  rw [List.getElem?_append_left (by rw [freeze_len]; exact hid), freeze_get]
/-- An entry of the view. -/
theorem Ctx.viewNew (c : Ctx P T call ops H tm0 n R) {i x : Nat} (hi : i ≤ n) (hx : x < (R i).N.length) : ∃ y u b, (R i).own[x]? = some y ∧ (R i).upd[x]? = some u ∧ (R i).N[x]? = some b ∧
    (viewAt H (clsOf ops []) i (R i))[H.length + x]? = some (Bk.frz (bif bit (clAt (clsOf ops []) i) y then (bif (match u with
    | none => true
    | some j => bit (clAt (clsOf ops []) i) j) then b else .dead b.gb) else .dead 0)) := by
  obtain ⟨h1, h2⟩ := c.lens hi
  have g1 : (R i).own[x]? = some (R i).own[x] := by simp [h1, hx]
  have g2 : (R i).upd[x]? = some (R i).upd[x] := by simp [h2, hx]
  have g3 : (R i).N[x]? = some (R i).N[x] := by simp [hx]
  refine ⟨_, _, _, g1, g2, g3, ?_⟩
  unfold viewAt
  rw [List.getElem?_append_right (by rw [freeze_len]; omega), freeze_len, Nat.add_sub_cancel_left, freeze_get, viewN_get _ _ _ _ x _ _ _ g1 g2 g3]
  rfl
theorem Ctx.gbView (c : Ctx P T call ops H tm0 n R) {i id k : Nat} (hi : i < n) : Gb (viewAt H (clsOf ops []) i (R i)) id k ↔ Gb (Hst H (R n) (Ck ops i)) id k := by
  rw [Gb_Hst]
  have f := c.tab.far' (Nat.le_of_lt hi) (Nat.le_refl n)
  constructor
  · rintro ⟨b, hb, hk⟩
    by_cases hid : id < H.length
    · rw [c.viewOld hid] at hb
      cases h0 : H[id]? with
      | none => simp [h0] at hb
      | some b0 =>
        simp only [h0, Option.map_some, Option.some.injEq] at hb
        subst hb
        exact .inl ⟨b0, h0, by rw [frz_gb] at hk; exact hk⟩
    · have hlt := (List.getElem?_eq_some_iff.1 hb).1
      rw [c.viewLen (Nat.le_of_lt hi)] at hlt
      obtain ⟨y, u, b0, g1, g2, g3, g4⟩ := c.viewNew (Nat.le_of_lt hi) (x := id - H.length) (by omega)
      rw [show H.length + (id - H.length) = id by omega, hb] at g4
      cases g4
      rw [frz_gb] at hk
      obtain ⟨b1, q1, q2⟩ := f.gb _ _ g3
      cases hy : bit (clAt (clsOf ops []) i) y with
      | false => simp only [hy, cond_false, Bk.gb] at hk; omega
      | true =>
        refine .inr ⟨id - H.length, y, b1, by omega, (f.own _ (by omega)).trans g1, q1, hy, ?_⟩
        rw [q2]
        simp only [hy, cond_true] at hk
        split at hk
        · simpa using hk
        · rename_i j
          cases hj : bit (clAt (clsOf ops []) i) j <;> simp only [hj, cond_true, cond_false] at hk
          · exact hk
          · exact hk
  · rintro (⟨b, hb, hk⟩ | ⟨x, y, b, rfl, h1, h2, hA, hk⟩)
    · exact ⟨b.frz, by rw [c.viewOld (List.getElem?_eq_some_iff.1 hb).1, hb]; rfl, by rw [frz_gb]; exact hk⟩
    · have hi' : i < ops.length := Nat.lt_of_lt_of_le hi c.n_le
      have hy := c.ord.lt i hi' y hA
      have hx : x < (R i).N.length := (c.tab.owner (Nat.le_of_lt hi) h1).2 hy
      obtain ⟨y', u, b0, g1, g2, g3, g4⟩ := c.viewNew (Nat.le_of_lt hi) hx
      have : y' = y := by
        have := f.own x hx
        rw [h1, g1] at this
        cases this; rfl
      subst this
      obtain ⟨b1, q1, q2⟩ := f.gb _ _ g3
      rw [h2] at q1
      cases q1
      refine ⟨_, g4, ?_⟩
      rw [frz_gb]
      simp only [Ck] at hA
      simp only [hA, cond_true]
      rw [q2] at hk
      split
      · exact hk
      · rename_i j
        cases bit (clAt (clsOf ops []) i) j
        · exact hk
        · exact hk
theorem later_Hst {r : Rg} {A B : Nat → Bool} (h : ∀ y, A y = true → B y = true) : Later ρ (Hst H r A) ρ (Hst H r B) := ⟨fun _ _ _ => rfl, fun id k hg => by
  rw [Gb_Hst] at hg ⊢
  rcases hg with hg | ⟨x, y, b, h0, h1, h2, hA, hk⟩
  · exact .inl hg
  · exact .inr ⟨x, y, b, h0, h1, h2, h y hA, hk⟩⟩
theorem later_H_Hst {r : Rg} {A : Nat → Bool} : Later ρ H ρ (Hst H r A) := ⟨fun _ _ _ => rfl, fun id k hg => Gb_Hst.2 (.inl hg)⟩
/-- What an operation reads of temporaries. -/
theorem Ctx.read (c : Ctx P T call ops H tm0 n R) (I : Inv ops H tm0 n R ρ0 w0 a0 S ρ a w) {i : Nat} (hi : i < n) (hS : ∀ k, bit (clAt (clsOf ops []) i) k = true → S k = true) (hn : S i = false) {o : Oper} (ho : ops[i]? = some o) {t : Tmp} (ht : t ∈ reads ops o) {v : V} (hv : (R i).tm[t]? = some v) :
    VRel ρ (viewAt H (clsOf ops []) i (R i)) v (a.tmps.getD t undef) ∧ t < a.tmps.size := by
  have hview : ∀ {A : Nat → Bool}, (∀ y, A y = true → Ck ops i y = true) → Later ρ (Hst H (R n) A) ρ (viewAt H (clsOf ops []) i (R i)) := fun h => (later_Hst h).trans ⟨fun _ _ _ => rfl, fun id k hg => (c.gbView hi).2 hg⟩
  have hlen : ∀ j, j ≤ n → (R j).tm.length = tm0.length := by
    intro j
    induction j with
    | zero => intro _; rw [c.tm]
    | succ j ih =>
      intro hj
      obtain ⟨o, ho, hs⟩ := c.rstep (i := j) (by omega)
      have hput : ∃ v, putT (R j).tm o.dst v = some (R (j + 1)).tm := by
        by_cases hst : ∃ t pa px, o.op = .store t pa px
        · obtain ⟨t, pa, px, hst⟩ := hst
          obtain ⟨x, off, m, n, cs, ys, cs', v, k, L⟩ := stepR_store hst hs
          exact ⟨_, L.tm'⟩
        · obtain ⟨v, H', _, h1, _⟩ := stepR_other (fun t pa px e => hst ⟨t, pa, px, e⟩) hs
          exact ⟨v, h1⟩
      obtain ⟨v, hput⟩ := hput
      rw [putT_len hput]
      exact ih (by omega)
  have hi' : i < ops.length := Nat.lt_of_lt_of_le hi c.n_le
  have hts : t < a.tmps.size := by
    rw [← I.len, ← hlen i (Nat.le_of_lt hi)]
    exact (List.getElem?_eq_some_iff.1 hv).1
  refine ⟨?_, hts⟩
  rcases c.temp t i (Nat.le_of_lt hi) with ⟨k, ok, k1, k2, k3, k4⟩ | ⟨h1, h2⟩
  · have hk : bit (clAt (clsOf ops []) i) k = true := by
      rcases (c.ord.ap i k o ok t (by omega) ho k2 k3).2 with h | h | h
      · exact h
      · have := c.ord.lt k (List.getElem?_eq_some_iff.1 k2).1 i h
        omega
      · exact absurd ht h
    rw [k4] at hv
    refine (I.t1 k (hS k hk) ok t v k2 k3 hv).later (hview fun y hy => ?_)
    simp only [Ak, Bool.or_eq_true] at hy
    rcases hy with hy | hy
    · rw [beq_nat hy]; exact hk
    · exact c.ord.tr i hi' k y hk hy
  · rw [h2] at hv
    refine (I.t2 t v hv fun k ok hk hok hd => ?_).later (later_H_Hst.trans (hview (A := Ck ops i) fun y hy => hy))
    by_cases hlt : k < i
    · exact h1 k ok hlt hok hd
    · by_cases e : k = i
      · rw [e, hn] at hk; cases hk
      · rcases (c.ord.ap i k o ok t (fun e' => e e'.symm) ho hok hd).2 with h | h | h
        · have := c.ord.lt i hi' k h
          omega
        · have := I.closed k hk i h
          rw [hn] at this; cases this
        · exact absurd ht h
/-- Memory as an operation sees it. -/
theorem Ctx.view (c : Ctx P T call ops H tm0 n R) (I : Inv ops H tm0 n R ρ0 w0 a0 S ρ a w) {i : Nat} (hi : i < n) (hS : ∀ k, bit (clAt (clsOf ops []) i) k = true → S k = true) (hn : S i = false) {Hv : Heap}
    (hlen : Hv.length = H.length + (R i).N.length) (hold : ∀ id, id < H.length → Hv[id]? = (H[id]?).map Bk.frz)
    (hnew : ∀ x b', x < (R i).N.length → Hv[H.length + x]? = some b' → (viewAt H (clsOf ops []) i (R i))[H.length + x]? = some b' ∨ (∃ b y, (R i).own[x]? = some y ∧ (R i).upd[x]? = some none ∧ (R i).N[x]? = some b ∧ bit (clAt (clsOf ops []) i) y = true ∧ b' = b)) : HRel ρ Hv w ∧ ∀ id k, Gb (viewAt H (clsOf ops []) i (R i)) id k → Gb Hv id k := by
  have hgb : ∀ id k, Gb (viewAt H (clsOf ops []) i (R i)) id k → Gb Hv id k := by
    rintro id k ⟨b, hb, hk⟩
    by_cases hid : id < H.length
    · rw [c.viewOld hid] at hb
      exact ⟨b, by rw [hold id hid]; exact hb, hk⟩
    · have hlt := (List.getElem?_eq_some_iff.1 hb).1
      rw [c.viewLen (Nat.le_of_lt hi)] at hlt
      have hx : id - H.length < (R i).N.length := by omega
      have he : H.length + (id - H.length) = id := by omega
      have hlt2 : id < Hv.length := by rw [hlen]; omega
      have hv : Hv[id]? = some Hv[id] := by simp [hlt2]
      rcases hnew (id - H.length) Hv[id] hx (by rw [he]; exact hv) with h | ⟨b0, y, h1, h2, h3, h4, h5⟩
      · rw [he, hb] at h
        have e := Option.some.inj h
        exact ⟨_, hv, by rw [← e]; exact hk⟩
      · obtain ⟨y', u, b1, g1, g2, g3, g4⟩ := c.viewNew (Nat.le_of_lt hi) hx
        rw [he, hb] at g4
        cases g4
        rw [h3] at g3; cases g3
        refine ⟨_, hv, ?_⟩
        rw [h5]
        rw [frz_gb] at hk
        rw [h1] at g1; cases g1
        rw [h2] at g2; cases g2
        simpa [h4] using hk
  have hlv : ∀ {A : Nat → Bool}, (∀ y, A y = true → Ck ops i y = true) → Later ρ (Hst H (R n) A) ρ Hv := fun h => (later_Hst h).trans ⟨fun _ _ _ => rfl, fun id k hg => hgb id k ((c.gbView hi).2 hg)⟩
  -- what stands at a place
  have cas : ∀ id b', Hv[id]? = some b' → (id < H.length ∧ ∃ b, H[id]? = some b ∧ b' = b.frz) ∨ (∃ g, b' = .dead g) ∨ (∃ x y b, id = H.length + x ∧ (R n).own[x]? = some y ∧ S y = true ∧ blkS R n S x = some b ∧ (b' = b ∨ b' = b.frz) ∧ (∀ y', wfS ops R n S x y y' = true → Ck ops i y' = true)) := by
    intro id b' hb
    by_cases hid : id < H.length
    · rw [hold id hid] at hb
      cases h0 : H[id]? with
      | none => simp [h0] at hb
      | some b0 =>
        simp only [h0, Option.map_some, Option.some.injEq] at hb
        exact .inl ⟨hid, b0, rfl, hb.symm⟩
    · have hlt := (List.getElem?_eq_some_iff.1 hb).1
      rw [hlen] at hlt
      have hx : id - H.length < (R i).N.length := by omega
      have he : H.length + (id - H.length) = id := by omega
      rcases hnew (id - H.length) b' hx (by rw [he]; exact hb) with h | ⟨b0, y, h1, h2, h3, h4, rfl⟩
      · obtain ⟨y, u, b1, g1, g2, g3, g4⟩ := c.viewNew (Nat.le_of_lt hi) hx
        rw [h] at g4
        cases g4
        cases hy : bit (clAt (clsOf ops []) i) y with
        | false => exact .inr (.inl ⟨0, rfl⟩)
        | true =>
          simp only [cond_true]
          split
          · obtain ⟨q1, q2, q3, q4⟩ := c.sees I hi hS hn g1 g2 g3 hy (fun j hj => by cases hj)
            exact .inr (.inr ⟨id - H.length, y, b1, by omega, q1, q2, q3, .inr rfl, q4⟩)
          · rename_i j
            cases hj : bit (clAt (clsOf ops []) i) j with
            | false => exact .inr (.inl ⟨_, rfl⟩)
            | true =>
              obtain ⟨q1, q2, q3, q4⟩ := c.sees I hi hS hn g1 g2 g3 hy (fun j' hj' => by cases hj'; exact hj)
              exact .inr (.inr ⟨id - H.length, y, b1, by omega, q1, q2, q3, .inr rfl, q4⟩)
      · obtain ⟨q1, q2, q3, q4⟩ := c.sees I hi hS hn h1 h2 h3 h4 (fun j hj => by cases hj)
        exact .inr (.inr ⟨id - H.length, y, b', by omega, q1, q2, q3, .inl rfl, q4⟩)
  refine ⟨⟨fun id b' hb => ?_, fun i1 i2 b1 b2 g hij hb1 hb2 hw o1 o2 => ?_⟩, hgb⟩
  · rcases cas id b' hb with ⟨hid, b, h1, rfl⟩ | ⟨g, rfl⟩ | ⟨x, y, b, rfl, h1, h2, h3, h4, h5⟩
    · rw [frz_rel]
      exact (I.hb id b h1).move (fun _ => rfl) (later_H_Hst.trans (hlv (A := Ck ops i) fun y hy => hy))
    · trivial
    · have := ((I.ent x y b h1 h2 h3).1).move (fun _ => rfl) (hlv h5)
      rcases h4 with rfl | rfl
      · exact this
      · rw [frz_rel]; exact this
  · have occ2 : ∀ (x y : Nat) (b b' : Bk), (b' = b ∨ b' = b.frz) → ∀ id g, Occ ρ id b' g → Occ ρ id b g := fun x y b b' h id g ho => by
      rcases h with rfl | rfl
      · exact ho
      · exact (frz_occ ρ id b g).1 ho
    rcases cas i1 b1 hb1 with ⟨hid, b, h1, rfl⟩ | ⟨g1, rfl⟩ | ⟨x, y, b, rfl, h1, h2, h3, h4, h5⟩
    · rw [frz_wr] at hw; cases hw
    · cases hw
    · have hb1w : b1 = b := by
        rcases h4 with h4 | h4
        · exact h4
        · rw [h4, frz_wr] at hw; cases hw
      subst hb1w
      rcases cas i2 b2 hb2 with ⟨hid, b', k1, rfl⟩ | ⟨g1, rfl⟩ | ⟨x', y', b', rfl, k1, k2, k3, k4, k5⟩
      · have := (I.ent x y b1 h1 h2 h3).2 g o1
        have := I.hocc i2 b' g k1 ((frz_occ ρ i2 b' g).1 o2)
        omega
      · exact o2.elim
      · exact I.dis x x' y y' b1 b' g (fun e => hij (by rw [e])) h1 k1 h2 k2 h3 k3 hw o1 (occ2 x' y' b' b2 k4 _ g o2)
end
end Go.Proofs.Ytbfepedjnlcgkaa.Pe
set_option linter.unusedVariables false
namespace Go.Proofs.Ytbfepedjnlcgkaa.Pe
open Go.RowKit
section
variable {P : Program} {T : Tys} {call : CallF} {ops : List Oper} {H : Heap} {tm0 : List V} {n : Nat} {R : Nat → Rg} {ρ0 ρ ρ' : Ren} {w0 w w' : World} {a0 a : Act} {S S' : Nat → Bool}
/-- An entry's life: made by its owner, and written once at most. -/
theorem Ctx.life (c : Ctx P T call ops H tm0 n R) {x y : Nat} (h : (R n).own[x]? = some y) : y < n ∧ (R y).N.length ≤ x ∧ x < (R (y + 1)).N.length ∧ (R (y + 1)).upd[x]? = some none ∧ (∀ t pa px o, ops[y]? = some o → o.op ≠ .store t pa px) ∧
    (((R n).upd[x]? = some none ∧ (R n).N[x]? = (R (y + 1)).N[x]?) ∨ ∃ u o t pa px off m k cs ys cs' v, y < u ∧ u < n ∧ ops[u]? = some o ∧ Loc T ops H (clsOf ops []) u o (R u) (R (u + 1)) x t pa px off m k cs ys cs' v y ∧ (R n).upd[x]? = some (some u) ∧ (R u).N[x]? = (R (y + 1)).N[x]? ∧ (R n).N[x]? = (R (u + 1)).N[x]?) := by
  have hyn : y < n := by
    have := (c.tab.owner (Nat.le_refl n) h).1 (by
      have := (List.getElem?_eq_some_iff.1 h).1
      rw [(c.lens (Nat.le_refl n)).1] at this
      exact this)
    exact this
  have h1 : x < (R (y + 1)).N.length := (c.tab.owner (i := y + 1) hyn h).2 (Nat.lt_succ_self y)
  have h2 : (R y).N.length ≤ x := by
    rcases Nat.lt_or_ge x (R y).N.length with h2 | h2
    · have := (c.tab.owner (Nat.le_of_lt hyn) h).1 h2
      omega
    · exact h2
  have h3 : (R (y + 1)).upd[x]? = some none := by
    rcases (c.tab.grown y hyn).how with ⟨B, g1, g2, g3⟩ | ⟨x0, b, b', g1, g2, g3, g4, g5, g6⟩
    · rw [g3, List.length_append] at h1
      rw [g2, List.getElem?_append_right (by rw [(c.lens (Nat.le_of_lt hyn)).2]; exact h2), List.getElem?_replicate, (c.lens (Nat.le_of_lt hyn)).2, if_pos (by omega)]
    · rw [g5, List.length_set] at h1
      omega
  have h4 : ∀ t pa px o, ops[y]? = some o → o.op ≠ .store t pa px := fun t pa px o ho hst => by
    obtain ⟨x', off, m, n', cs, ys, cs', v, k, L⟩ := stepR_store hst (c.steps y o hyn ho)
    rw [L.N', List.length_set] at h1
    omega
  refine ⟨hyn, h2, h1, h3, h4, ?_⟩
  have f := c.tab.far' (i := y + 1) (j := n) hyn (Nat.le_refl n)
  rcases f.upd x h1 with ⟨u1, u2⟩ | ⟨u1, j, j1, j2, j3, j4, j5, j6, j7⟩
  · exact .inl ⟨u1.trans h3, u2⟩
  · obtain ⟨o, ho, hs⟩ := c.rstep (i := j) j2
    have hst : ∃ t pa px, o.op = .store t pa px := by
      rcases Classical.em (∃ t pa px, o.op = .store t pa px) with h | h
      · exact h
      · exfalso
        obtain ⟨v, H', _, _, _, g2, _⟩ := stepR_other (fun t pa px e => h ⟨t, pa, px, e⟩) hs
        have hlt : x < (R j).upd.length := (List.getElem?_eq_some_iff.1 j6).1
        rw [g2, List.getElem?_append_left hlt, j6] at j7
        cases j7
    obtain ⟨t, pa, px, hst⟩ := hst
    obtain ⟨x', off, m, n', cs, ys, cs', v, k, L⟩ := stepR_store hst hs
    have hxx : x = x' := by
      rcases Nat.decEq x x' with h | h
      · exfalso
        rw [L.upd', List.getElem?_set_ne (fun e => h e.symm), j6] at j7
        cases j7
      · exact h
    subst hxx
    have fj := c.tab.far' (Nat.le_of_lt j2) (Nat.le_refl n)
    have hk : k = y := by
      have := fj.own x (List.getElem?_eq_some_iff.1 L.blk).1
      rw [h, L.own] at this
      cases this; rfl
    subst hk
    exact .inr ⟨j, o, t, pa, px, off, m, n', cs, ys, cs', v, by omega, j2, ho, L, j3, j4, j5.symm⟩
theorem Inv.ak (I : Inv ops H tm0 n R ρ0 w0 a0 S ρ a w) {k y : Nat} (hk : S k = true) (h : Ak ops k y = true) : S y = true := by
  simp only [Ak, Bool.or_eq_true] at h
  rcases h with h | h
  · rw [beq_nat h]; exact hk
  · exact I.closed k hk y h
theorem wfS_none {x y : Nat} (h : (R n).upd[x]? = some none) : wfS ops R n S x y = Ak ops y ∧ blkS R n S x = (R n).N[x]? := by
  constructor
  · simp only [wfS, h]
  · simp only [blkS, h]
theorem wfS_some {x y u : Nat} (h : (R n).upd[x]? = some (some u)) : wfS ops R n S x y = (if S u = true then Ak ops u else Ak ops y) ∧ blkS R n S x = (if S u = true then (R n).N[x]? else (R u).N[x]?) := by
  constructor
  · simp only [wfS, h]
  · simp only [blkS, h]
theorem Inv.wf (I : Inv ops H tm0 n R ρ0 w0 a0 S ρ a w) {x y y' : Nat} (hy : S y = true) (h : wfS ops R n S x y y' = true) : S y' = true := by
  rcases hu : (R n).upd[x]? with _ | _ | u
  · simp only [wfS, hu] at h
    exact I.ak hy h
  · rw [(wfS_none hu).1] at h
    exact I.ak hy h
  · rw [(wfS_some hu).1] at h
    split at h
    · rename_i hu
      exact I.ak hu h
    · exact I.ak hy h
/-- Names given to new blocks leave what was said of the others. -/
theorem later_S {A : Nat → Bool} (hA : ∀ y, A y = true → S y = true) {i : Nat} (hn : S i = false) (h0 : ∀ id, id < H.length → ρ' id = ρ id) (h1 : ∀ x y, (R n).own[x]? = some y → y ≠ i → ρ' (H.length + x) = ρ (H.length + x)) : Later ρ (Hst H (R n) A) ρ' (Hst H (R n) A) := by
  refine ⟨fun id k hg => ?_, fun _ _ h => h⟩
  rw [Gb_Hst] at hg
  rcases hg with ⟨b, hb, hk⟩ | ⟨x, y, b, rfl, e1, e2, e3, hk⟩
  · rw [h0 id (List.getElem?_eq_some_iff.1 hb).1]
  · rw [h1 x y e1 (fun e => by rw [e] at e3; have := hA i e3; rw [hn] at this; cases this)]
theorem put_getD_ne {d : Option Tmp} {t : Tmp} {v : Value} (h : d ≠ some t) : (a.put d v).tmps.getD t undef = a.tmps.getD t undef := by
  cases d with
  | none => rfl
  | some d =>
    have : d ≠ t := fun e => h (by rw [e])
    simp [Act.put, this]
theorem put_size (a : Act) (d : Option Tmp) (v : Value) : (a.put d v).tmps.size = a.tmps.size := by
  cases d with
  | none => rfl
  | some d => simp [Act.put]
/-- What holds when one more operation has been carried out, but for the entries. -/
theorem Ctx.next (c : Ctx P T call ops H tm0 n R) (I : Inv ops H tm0 n R ρ0 w0 a0 S ρ a w) {i : Nat} (hi : i < n) (hS : ∀ k, bit (clAt (clsOf ops []) i) k = true → S k = true) (hn : S i = false) (hS' : ∀ j, S' j = true ↔ j = i ∨ S j = true) {o : Oper} (ho : ops[i]? = some o) {v : V} {cv : Value}
    (hput : putT (R i).tm o.dst v = some (R (i + 1)).tm) (hv : VRel ρ' (Hst H (R n) (Ak ops i)) v cv) (h0 : ∀ id, id < H.length → ρ' id = ρ id) (h1 : ∀ x y, (R n).own[x]? = some y → y ≠ i → ρ' (H.length + x) = ρ (H.length + x))
    (hb : Below w0.heap.size w w') (hlen : (R i).tm.length = a.tmps.size)
    (ent : ∀ (x y : Nat) b, (R n).own[x]? = some y → S' y = true → blkS R n S' x = some b → BRel ρ' (Hst H (R n) (wfS ops R n S' x y)) (H.length + x) b w' ∧ ∀ g, Occ ρ' (H.length + x) b g → w0.heap.size ≤ g)
    (dis : ∀ (x x' y y' : Nat) b b' g, x ≠ x' → (R n).own[x]? = some y → (R n).own[x']? = some y' → S' y = true → S' y' = true → blkS R n S' x = some b → blkS R n S' x' = some b' → b.wr = true → Occ ρ' (H.length + x) b g → Occ ρ' (H.length + x') b' g → False) :
    Inv ops H tm0 n R ρ0 w0 a0 S' ρ' (a.put o.dst cv) w' := by
  have hlH : Later ρ H ρ' H := ⟨fun id k ⟨b, hb, hk⟩ => by rw [h0 id (List.getElem?_eq_some_iff.1 hb).1], fun _ _ h => h⟩
  have hsz : w0.heap.size ≤ w.heap.size := I.below.size
  refine ⟨fun j hj k hk => ?_, fun j hj => ?_, I.later.trans hlH, fun id b hid => ?_, fun id b g hid hg => ?_, I.below.trans hb, ent, dis, (I.len.trans (put_size _ _ _).symm), fun k hk ok d u hok hd hu => ?_, fun t u ht hno => ?_, (put_defers _ _ _).trans I.def_⟩
  · rcases (hS' j).1 hj with rfl | hj
    · exact (hS' k).2 (.inr (hS k hk))
    · exact (hS' k).2 (.inr (I.closed j hj k hk))
  · rcases (hS' j).1 hj with rfl | hj
    · exact hi
    · exact I.heads j hj
  · refine ((I.hb id b hid).keep hb.size fun g _ hg => hb.block g (I.hocc id b g hid hg)).move (fun k => by rw [h0 id (List.getElem?_eq_some_iff.1 hid).1]) hlH
  · exact I.hocc id b g hid ((Occ_congr fun k => by rw [h0 id (List.getElem?_eq_some_iff.1 hid).1]).1 hg)
  · rcases (hS' k).1 hk with rfl | hk
    · rw [ho] at hok
      cases hok
      rw [hd] at hput ⊢
      obtain ⟨e1, e2⟩ := setL_some _ _ _ _ hput
      rw [e1] at hu
      have hu : v = u := by simpa [e2] using hu
      subst hu
      have : d < a.tmps.size := by rw [← hlen]; exact e2
      simpa [Act.put, this] using hv
    · have hki : i ≠ k := fun e => by rw [← e, hn] at hk; cases hk
      rw [put_getD_ne (c.ord.ap i k o ok d hki ho hok hd).1]
      exact (I.t1 k hk ok d u hok hd hu).later (later_S (S := S) (fun y hy => I.ak hk hy) hn h0 h1)
  · rw [put_getD_ne (hno i o ((hS' i).2 (.inl rfl)) ho)]
    exact (I.t2 t u ht fun k ok hk hok => hno k ok ((hS' k).2 (.inr hk)) hok).later hlH
end
end Go.Proofs.Ytbfepedjnlcgkaa.Pe
set_option linter.unusedVariables false
namespace Go.Proofs.Ytbfepedjnlcgkaa.Pe
open Go.RowKit
section
variable {P : Program} {T : Tys} {call : CallF} {ops : List Oper} {H : Heap} {tm0 : List V} {n : Nat} {R : Nat → Rg} {ρ0 ρ ρ' : Ren} {w0 w w' : World} {a0 a : Act} {S S' : Nat → Bool}
theorem Ctx.tmlen (c : Ctx P T call ops H tm0 n R) : ∀ j, j ≤ n → (R j).tm.length = tm0.length
  | 0, _ => by rw [c.tm]
  | j + 1, hj => by
    obtain ⟨o, ho, hs⟩ := c.rstep (i := j) (by omega)
    have hput : ∃ v, putT (R j).tm o.dst v = some (R (j + 1)).tm := by
      by_cases hst : ∃ t pa px, o.op = .store t pa px
      · obtain ⟨t, pa, px, hst⟩ := hst
        obtain ⟨x, off, m, n, cs, ys, cs', v, k, L⟩ := stepR_store hst hs
        exact ⟨_, L.tm'⟩
      · obtain ⟨v, H', _, h1, _⟩ := stepR_other (fun t pa px e => hst ⟨t, pa, px, e⟩) hs
        exact ⟨v, h1⟩
    obtain ⟨v, hput⟩ := hput
    rw [putT_len hput]
    exact c.tmlen j (by omega)
theorem Ctx.hop (c : Ctx P T call ops H tm0 n R) (I : Inv ops H tm0 n R ρ0 w0 a0 S ρ a w) {i : Nat} (hi : i < n) (hS : ∀ k, bit (clAt (clsOf ops []) i) k = true → S k = true) (hn : S i = false) {o : Oper} (ho : ops[i]? = some o) :
    Hop ρ (viewAt H (clsOf ops []) i (R i)) (R i).tm a o.op.operands.toList := by
  intro x hx v hv
  cases x with
  | tmp t =>
    have hv' : (R i).tm[t]? = some v := by rw [← getL_eq]; exact hv
    have ht : t ∈ reads ops o := by
      unfold reads
      exact List.mem_append_left _ (List.mem_filterMap.2 ⟨.tmp t, hx, rfl⟩)
    exact (c.read I hi hS hn ho ht hv').1
  | const u => exact opnd_rel (a := { a with tmps := #[] }) (tm := []) ⟨rfl, fun t x h => by simp at h⟩ (x := .const u) hv
  | _ => cases hv
theorem Ctx.wanted (c : Ctx P T call ops H tm0 n R) (I : Inv ops H tm0 n R ρ0 w0 a0 S ρ a w) {i : Nat} (hi : i < n) (hS : ∀ k, bit (clAt (clsOf ops []) i) k = true → S k = true) (hn : S i = false) {o : Oper} (ho : ops[i]? = some o) {b : Bool} (h : wantedE ops o (R i).tm = some b) :
    Region.wanted o (yielded ops.toArray a.tmps) = b := by
  refine wanted_rel' (ρ := ρ) (H := viewAt H (clsOf ops []) i (R i)) (fun j want d x hg hd hx => ?_) h
  have ht : d ∈ reads ops o := by
    unfold reads
    refine List.mem_append_right _ ?_
    rw [hg]
    simp [hd]
  obtain ⟨h1, h2⟩ := c.read I hi hS hn ho ht hx
  exact ⟨a.tmps[d], by simp [h2], by simpa [h2] using h1⟩
/-- Not a store: new blocks, and those that were there stay. -/
theorem Ctx.other (c : Ctx P T call ops H tm0 n R) (I : Inv ops H tm0 n R ρ0 w0 a0 S ρ a w) {i : Nat} (hi : i < n) (hS : ∀ k, bit (clAt (clsOf ops []) i) k = true → S k = true) (hn : S i = false) (hS' : ∀ j, S' j = true ↔ j = i ∨ S j = true) {o : Oper} (ho : ops[i]? = some o) (hno : ∀ t pa px, o.op ≠ .store t pa px)
    {v : V} {cv : Value} {H' : Heap} (hput : putT (R i).tm o.dst v = some (R (i + 1)).tm) (hN : (R (i + 1)).N = (R i).N ++ H'.drop (H.length + (R i).N.length)) (s : Step ρ (viewAt H (clsOf ops []) i (R i)) w ρ' H' w') (hv : VRel ρ' H' v cv) :
    ∃ ρ'', Inv ops H tm0 n R ρ0 w0 a0 S' ρ'' (a.put o.dst cv) w' := by
  have hvl := c.viewLen (i := i) (Nat.le_of_lt hi)
  have hfz : ∀ (id : Nat) (b : Bk), (viewAt H (clsOf ops []) i (R i))[id]? = some b → b.wr = false := fun id b hb => by
    unfold viewAt at hb
    rw [← show freeze (H ++ viewN (clAt (clsOf ops []) i) (R i).own (R i).upd (R i).N) = freeze H ++ freeze (viewN (clAt (clsOf ops []) i) (R i).own (R i).upd (R i).N) by simp [freeze], freeze_get] at hb
    obtain ⟨b0, _, rfl⟩ := map_some hb
    exact frz_wr b0
  have hext : ∀ (id : Nat) (b : Bk), (viewAt H (clsOf ops []) i (R i))[id]? = some b → H'[id]? = some b := fun id b hb => by
    obtain ⟨b', e1, _, e3⟩ := s.ext id b hb
    rw [e1, e3 (hfz id b hb)]
  have hl' : (viewAt H (clsOf ops []) i (R i)).length ≤ H'.length := by
    rcases Nat.lt_or_ge H'.length (viewAt H (clsOf ops []) i (R i)).length with hlt | hge
    · have := hext H'.length (viewAt H (clsOf ops []) i (R i))[H'.length] (by simp [hlt])
      simp at this
    · exact hge
  have hlen : H'.length = H.length + (R (i + 1)).N.length := by
    rw [hN, List.length_append, List.length_drop]
    omega
  have hsame : ∀ g, g < w.heap.size → w'.heap[g]? = w.heap[g]? := fun g hg => s.keep.block g hg fun id b hb hw _ => by
    rw [hfz id b hb] at hw
    cases hw
  have hB : Below w.heap.size w w' := ⟨s.keep.os, s.keep.tape, s.keep.output, s.keep.size, hsame⟩
  have hsz : w0.heap.size ≤ w.heap.size := I.below.size
  have hNi : (R i).N.length ≤ (R (i + 1)).N.length := by rw [hN, List.length_append]; omega
  let ρ'' : Ren := fun id => if H.length + (R i).N.length ≤ id ∧ id < H.length + (R (i + 1)).N.length then ρ' id else ρ id
  have r0 : ∀ id, id < H.length → ρ'' id = ρ id := fun id hid => if_neg (by omega)
  have r1 : ∀ x y, (R n).own[x]? = some y → y ≠ i → ρ'' (H.length + x) = ρ (H.length + x) := fun x y hx hy => if_neg (by
    have h1 := c.tab.owner (i := i) (Nat.le_of_lt hi) hx
    have h2 := c.tab.owner (i := i + 1) hi hx
    omega)
  have r2 : ∀ x, (R n).own[x]? = some i → ρ'' (H.length + x) = ρ' (H.length + x) ∧ (R i).N.length ≤ x ∧ x < (R (i + 1)).N.length := fun x hx => by
    have h1 := c.tab.owner (i := i) (Nat.le_of_lt hi) hx
    have h2 := c.tab.owner (i := i + 1) hi hx
    exact ⟨if_pos (by omega), by omega, by omega⟩
  have hH'N : ∀ x, (R i).N.length ≤ x → H'[H.length + x]? = (R (i + 1)).N[x]? := fun x hx => by
    rw [hN, List.getElem?_append_right hx, List.getElem?_drop]
    congr 1
    omega
  have f1 := c.tab.far' (i := i + 1) (j := n) hi (Nat.le_refl n)
  have hlt : Later ρ' H' ρ'' (Hst H (R n) (Ak ops i)) := by
    have hcase : ∀ id k, Gb H' id k → (id < H.length + (R i).N.length ∧ Gb (viewAt H (clsOf ops []) i (R i)) id k) ∨ (∃ x b, id = H.length + x ∧ (R i).N.length ≤ x ∧ x < (R (i + 1)).N.length ∧ (R (i + 1)).N[x]? = some b ∧ k < b.gb) := fun id k ⟨b, hb, hk⟩ => by
      by_cases hid : id < H.length + (R i).N.length
      · refine .inl ⟨hid, (viewAt H (clsOf ops []) i (R i))[id]'(by omega), by simp [hvl, hid], ?_⟩
        have := hext id ((viewAt H (clsOf ops []) i (R i))[id]'(by omega)) (by simp [hvl, hid])
        rw [hb] at this
        have := Option.some.inj this
        rw [← this]
        exact hk
      · have := (List.getElem?_eq_some_iff.1 hb).1
        refine .inr ⟨id - H.length, b, by omega, by omega, by omega, ?_, hk⟩
        rw [← hH'N _ (by omega), show H.length + (id - H.length) = id by omega]
        exact hb
    refine ⟨fun id k hg => ?_, fun id k hg => ?_⟩
    · rcases hcase id k hg with ⟨h1, h2⟩ | ⟨x, b, rfl, h1, h2, _⟩
      · rw [s.agree id k h2]
        exact congrFun (if_neg (by omega)) k
      · exact congrFun (if_pos (by omega)) k
    · rcases hcase id k hg with ⟨h1, h2⟩ | ⟨x, b, rfl, h1, h2, h3, h4⟩
      · exact (later_Hst (ρ := ρ) (fun y hy => by simp only [Ak, Ck, Bool.or_eq_true] at *; exact .inr hy)).gb id k ((c.gbView hi).1 h2)
      · obtain ⟨b', q1, q2⟩ := f1.gb x b h3
        have hown : (R n).own[x]? = some i := by
          have hx : x < (R n).own.length := by rw [(c.lens (Nat.le_refl n)).1]; exact (List.getElem?_eq_some_iff.1 q1).1
          have hy : (R n).own[x]? = some (R n).own[x] := by simp [hx]
          have o1 := c.tab.owner (i := i) (Nat.le_of_lt hi) hy
          have o2 := c.tab.owner (i := i + 1) hi hy
          rw [hy]
          congr 1
          omega
        exact Gb_Hst.2 (.inr ⟨x, i, b', rfl, hown, q1, by simp [Ak], by omega⟩)
  -- entries of others
  have old : ∀ (x y : Nat) b, (R n).own[x]? = some y → y ≠ i → S' y = true → blkS R n S' x = some b → S y = true ∧ blkS R n S x = some b ∧ wfS ops R n S' x y = wfS ops R n S x y := fun x y b hx hy hs hb => by
    have hsy : S y = true := ((hS' y).1 hs).resolve_left hy
    obtain ⟨_, _, _, _, _, h | ⟨u, ou, t, pa, px, off, m, k, cs, ys, cs', v, u1, u2, u3, L, u4, u5, u6⟩⟩ := c.life hx
    · rw [(wfS_none (ops := ops) (y := y) (S := S') h.1).2] at hb
      exact ⟨hsy, (wfS_none (ops := ops) (y := y) (S := S) h.1).2.trans hb, ((wfS_none (ops := ops) (y := y) (S := S') h.1).1).trans ((wfS_none (S := S) h.1).1).symm⟩
    · have hui : u ≠ i := fun e => by
        subst e
        rw [ho] at u3
        cases u3
        exact hno _ _ _ L.op
      have hSu : S' u = S u := by
        have := hS' u
        cases h1 : S u with
        | true => exact this.2 (.inr h1)
        | false =>
          cases h2 : S' u with
          | false => rfl
          | true =>
            rcases this.1 h2 with h3 | h3
            · exact absurd h3 hui
            · rw [h1] at h3; cases h3
      have e1 := wfS_some (ops := ops) (y := y) (S := S') u4
      have e2 := wfS_some (ops := ops) (y := y) (S := S) u4
      rw [hSu] at e1
      exact ⟨hsy, e2.2.trans (e1.2.symm.trans hb), e1.1.trans e2.1.symm⟩
  -- entries of this
  have new : ∀ (x : Nat) b, (R n).own[x]? = some i → blkS R n S' x = some b → H'[H.length + x]? = some b ∧ wfS ops R n S' x i = Ak ops i := fun x b hx hb => by
    obtain ⟨_, q2, q3, _, _, h | ⟨u, ou, t, pa, px, off, m, k, cs, ys, cs', v, u1, u2, u3, L, u4, u5, u6⟩⟩ := c.life hx
    · rw [(wfS_none (ops := ops) (y := i) (S := S') h.1).2] at hb
      exact ⟨by rw [hH'N x q2, ← h.2]; exact hb, (wfS_none (S := S') h.1).1⟩
    · have hSu : S' u = false := by
        cases h2 : S' u with
        | false => rfl
        | true =>
          rcases (hS' u).1 h2 with h3 | h3
          · omega
          · have := I.closed u h3 i L.sees
            rw [hn] at this; cases this
      have e1 := wfS_some (ops := ops) (y := i) (S := S') u4
      rw [hSu] at e1
      simp only [Bool.false_eq_true, if_false] at e1
      exact ⟨by rw [hH'N x q2, ← u5, ← e1.2]; exact hb, e1.1⟩
  have newOcc : ∀ (x : Nat) b g, (R n).own[x]? = some i → H'[H.length + x]? = some b → Occ ρ'' (H.length + x) b g → w.heap.size ≤ g := fun x b g hx hb ho => by
    obtain ⟨e1, e2, _⟩ := r2 x hx
    rcases s.occ (H.length + x) b g hb ((Occ_congr fun k => by rw [e1]).1 ho) with h | ⟨b0, h, _⟩
    · exact h
    · have := (List.getElem?_eq_some_iff.1 h).1
      omega
  have oldOcc : ∀ (x y : Nat) b g, (R n).own[x]? = some y → y ≠ i → S y = true → blkS R n S x = some b → Occ ρ'' (H.length + x) b g → Occ ρ (H.length + x) b g ∧ g < w.heap.size := fun x y b g hx hy hs hb ho => by
    have ho := (Occ_congr fun k => by rw [r1 x y hx hy]).1 ho
    exact ⟨ho, Occ.lt (I.ent x y b hx hs hb).1 ho⟩
  refine ⟨ρ'', c.next I hi hS hn hS' ho hput (hv.later hlt) r0 r1 (hB.mono hsz) ((c.tmlen i (Nat.le_of_lt hi)).trans I.len) (fun x y b hx hy hb => ?_) (fun x x' y y' b b' g hne hx hx' hy hy' hb hb' hw o1 o2 => ?_)⟩
  · by_cases e : y = i
    · subst e
      obtain ⟨n1, n2⟩ := new x b hx hb
      refine ⟨?_, fun g hg => Nat.le_trans hsz (newOcc x b g hx n1 hg)⟩
      rw [n2]
      exact (s.rel.blk _ b n1).move (fun k => by rw [(r2 x hx).1]) hlt
    · obtain ⟨n1, n2, n3⟩ := old x y b hx e hy hb
      obtain ⟨i1, i2⟩ := I.ent x y b hx n1 n2
      rw [n3]
      refine ⟨(i1.keep s.keep.size fun g hg _ => hsame g hg).move (fun k => by rw [r1 x y hx e]) (later_S (S := S) (fun y' hy' => I.wf n1 hy') hn r0 r1), fun g hg => i2 g (oldOcc x y b g hx e n1 n2 hg).1⟩
  · by_cases e : y = i
    · subst e
      obtain ⟨n1, n2⟩ := new x b hx hb
      by_cases e' : y' = y
      · subst e'
        obtain ⟨m1, m2⟩ := new x' b' hx' hb'
        exact s.rel.dis _ _ b b' g (by omega) n1 m1 hw ((Occ_congr fun k => by rw [(r2 x hx).1]).1 o1) ((Occ_congr fun k => by rw [(r2 x' hx').1]).1 o2)
      · obtain ⟨m1, m2, m3⟩ := old x' y' b' hx' e' hy' hb'
        have := newOcc x b g hx n1 o1
        have := (oldOcc x' y' b' g hx' e' m1 m2 o2).2
        omega
    · obtain ⟨n1, n2, n3⟩ := old x y b hx e hy hb
      by_cases e' : y' = i
      · subst e'
        obtain ⟨m1, m2⟩ := new x' b' hx' hb'
        have := newOcc x' b' g hx' m1 o2
        have := (oldOcc x y b g hx e n1 n2 o1).2
        omega
      · obtain ⟨m1, m2, m3⟩ := old x' y' b' hx' e' hy' hb'
        exact I.dis x x' y y' b b' g hne hx hx' n1 m1 n2 m2 hw (oldOcc x y b g hx e n1 n2 o1).1 (oldOcc x' y' b' g hx' e' m1 m2 o2).1
/-- A store into a block of the region. -/
theorem Ctx.store (c : Ctx P T call ops H tm0 n R) (I : Inv ops H tm0 n R ρ0 w0 a0 S ρ a w) {i : Nat} (hi : i < n) (hS : ∀ k, bit (clAt (clsOf ops []) i) k = true → S k = true) (hn : S i = false) (hS' : ∀ j, S' j = true ↔ j = i ∨ S j = true) {o : Oper} (ho : ops[i]? = some o)
    {x off m kn : Nat} {t : TypeId} {pa px : Operand} {cs ys cs' : List C} {v : V} {y : Nat} (L : Loc T ops H (clsOf ops []) i o (R i) (R (i + 1)) x t pa px off m kn cs ys cs' v y) :
    ∃ w', (Instr.storeAt t (a.eval pa) (a.eval px)).run P w = .ok () w' ∧ Inv ops H tm0 n R ρ0 w0 a0 S' ρ (a.put o.dst undef) w' := by
  have hvl := c.viewLen (i := i) (Nat.le_of_lt hi)
  have hxl : x < (R i).N.length := (List.getElem?_eq_some_iff.1 L.blk).1
  have f0 := c.tab.far' (i := i) (j := n) (Nat.le_of_lt hi) (Nat.le_refl n)
  have hown : (R n).own[x]? = some y := (f0.own x hxl).trans L.own
  obtain ⟨hown', hsy, hblk, hwf⟩ := c.sees I hi hS hn L.own L.upd L.blk L.sees (fun j hj => by cases hj)
  let Hw : Heap := (viewAt H (clsOf ops []) i (R i)).set (H.length + x) (.var true m cs)
  have gne : ∀ id, id ≠ H.length + x → Hw[id]? = (viewAt H (clsOf ops []) i (R i))[id]? := fun id hid => List.getElem?_set_ne (fun e => hid e.symm)
  have geq : Hw[H.length + x]? = some (.var true m cs) := by
    show ((viewAt H (clsOf ops []) i (R i)).set (H.length + x) (.var true m cs))[H.length + x]? = _
    rw [List.getElem?_set_self (by omega)]
  have hwl : Hw.length = H.length + (R i).N.length := by
    show ((viewAt H (clsOf ops []) i (R i)).set (H.length + x) (.var true m cs)).length = _
    rw [List.length_set, hvl]
  obtain ⟨hH, hgb⟩ := c.view I hi hS hn (Hv := Hw) hwl (fun id hid => by rw [gne id (by omega), c.viewOld hid]) (fun x' b' hx' hb' => by
    by_cases e : x' = x
    · subst e
      rw [geq] at hb'
      cases hb'
      exact .inr ⟨_, y, L.own, L.upd, L.blk, L.sees, rfl⟩
    · rw [gne _ (by omega)] at hb'
      exact .inl hb')
  have hvw : ∀ id k, Gb Hw id k → Gb (viewAt H (clsOf ops []) i (R i)) id k := by
    rintro id k ⟨b, hb, hk⟩
    by_cases e : id = H.length + x
    · subst e
      rw [geq] at hb
      cases hb
      obtain ⟨y', u, b1, g1, g2, g3, g4⟩ := c.viewNew (Nat.le_of_lt hi) hxl
      rw [L.own] at g1; cases g1
      rw [L.upd] at g2; cases g2
      rw [L.blk] at g3; cases g3
      refine ⟨_, g4, ?_⟩
      rw [frz_gb]
      simpa [L.sees] using hk
    · rw [gne id e] at hb
      exact ⟨b, hb, hk⟩
  have hop := c.hop I hi hS hn ho
  have hl : Later ρ (viewAt H (clsOf ops []) i (R i)) ρ Hw := ⟨fun _ _ _ => rfl, hgb⟩
  have v1 := (hop pa (by simp [L.op, Op.operands]) _ L.pa).later hl
  have v2 := (hop px (by simp [L.op, Op.operands]) _ L.px).later hl
  have hst : vstore T Hw t (.c (.p (H.length + x) off)) v = some (Hw.set (H.length + x) (.var true m cs')) := by
    obtain ⟨ti, t1, t2⟩ := L.ty
    unfold vstore
    simp only [L.cells, t1, t2, Nat.beq_refl, cond_true, wrAt, getL_eq, geq]
    have := L.spl
    rw [t2] at this
    rw [this]
    exact setL_of _ _ _ (by omega)
  obtain ⟨w', hrun, s⟩ := vstore_rel (P := P) c.hT hst hH v1 v2
  refine ⟨w', hrun, ?_⟩
  have hwr : ∀ (id : Nat) (b : Bk), Hw[id]? = some b → b.wr = true → id = H.length + x := fun id b hb hw => by
    by_cases e : id = H.length + x
    · exact e
    · exfalso
      rw [gne id e] at hb
      unfold viewAt at hb
      rw [← show freeze (H ++ viewN (clAt (clsOf ops []) i) (R i).own (R i).upd (R i).N) = freeze H ++ freeze (viewN (clAt (clsOf ops []) i) (R i).own (R i).upd (R i).N) by simp [freeze], freeze_get] at hb
      obtain ⟨b0, _, rfl⟩ := map_some hb
      rw [frz_wr] at hw
      cases hw
  have hsame : ∀ g, g < w.heap.size → ¬ Occ ρ (H.length + x) (.var true m cs) g → w'.heap[g]? = w.heap[g]? := fun g hg hno => s.keep.block g hg fun id b hb hw ho => by
    have := hwr id b hb hw
    subst this
    rw [geq] at hb
    cases hb
    exact hno ho
  have hxb := I.ent x y _ hown' hsy hblk
  have hB : Below w0.heap.size w w' := ⟨s.keep.os, s.keep.tape, s.keep.output, s.keep.size, fun g hg => hsame g (Nat.lt_of_lt_of_le hg I.below.size) fun ho => by
    have := hxb.2 g ho
    omega⟩
  have f1 := c.tab.far' (i := i + 1) (j := n) hi (Nat.le_refl n)
  have hNl : (R (i + 1)).N.length = (R i).N.length := by rw [L.N', List.length_set]
  have hN1 : (R (i + 1)).N[x]? = some (.var true m cs') := by rw [L.N', List.getElem?_set_self hxl]
  have hu1 : (R (i + 1)).upd[x]? = some (some i) := by
    rw [L.upd', List.getElem?_set_self]
    rw [(c.lens (Nat.le_of_lt hi)).2]
    exact hxl
  have hun : (R n).upd[x]? = some (some i) ∧ (R n).N[x]? = some (.var true m cs') := by
    rcases f1.upd x (by omega) with ⟨u1, u2⟩ | ⟨u1, _⟩
    · exact ⟨u1.trans hu1, u2.trans hN1⟩
    · rw [hu1] at u1; cases u1
  have hSi : S' i = true := (hS' i).2 (.inl rfl)
  have this_ : ∀ y' b, (R n).own[x]? = some y' → blkS R n S' x = some b → b = .var true m cs' ∧ wfS ops R n S' x y' = Ak ops i := fun y' b hx hb => by
    have e1 := wfS_some (ops := ops) (y := y') (S := S') hun.1
    rw [hSi] at e1
    simp only [if_true] at e1
    rw [e1.2, hun.2] at hb
    cases hb
    exact ⟨rfl, e1.1⟩
  have noti : ∀ x' y', (R n).own[x']? = some y' → S' y' = true → S y' = true := fun x' y' hx hs => by
    refine ((hS' y').1 hs).resolve_left fun e => ?_
    subst e
    obtain ⟨_, q2, q3, _⟩ := c.life hx
    omega
  have old : ∀ (x' y' : Nat) b, (R n).own[x']? = some y' → x' ≠ x → S' y' = true → blkS R n S' x' = some b → S y' = true ∧ blkS R n S x' = some b ∧ wfS ops R n S' x' y' = wfS ops R n S x' y' := fun x' y' b hx hne hs hb => by
    have hsy := noti x' y' hx hs
    obtain ⟨_, _, _, _, _, h | ⟨u, ou, t, pa, px, off, m, k, cs, ys, cs', v, u1, u2, u3, L', u4, u5, u6⟩⟩ := c.life hx
    · rw [(wfS_none (ops := ops) (y := y') (S := S') h.1).2] at hb
      exact ⟨hsy, (wfS_none (ops := ops) (y := y') (S := S) h.1).2.trans hb, ((wfS_none (ops := ops) (y := y') (S := S') h.1).1).trans ((wfS_none (S := S) h.1).1).symm⟩
    · have hui : u ≠ i := fun e => by
        subst e
        have h1 := L'.upd'
        rw [L.upd'] at h1
        have h2 := congrArg (fun l => l[x]?) h1
        have hxu : x < (R u).upd.length := by rw [(c.lens (Nat.le_of_lt hi)).2]; exact hxl
        simp only [List.getElem?_set_self hxu, List.getElem?_set_ne hne, L.upd] at h2
        cases h2
      have hSu : S' u = S u := by
        have := hS' u
        cases h1 : S u with
        | true => exact this.2 (.inr h1)
        | false =>
          cases h2 : S' u with
          | false => rfl
          | true =>
            rcases this.1 h2 with h3 | h3
            · exact absurd h3 hui
            · rw [h1] at h3; cases h3
      have e1 := wfS_some (ops := ops) (y := y') (S := S') u4
      have e2 := wfS_some (ops := ops) (y := y') (S := S) u4
      rw [hSu] at e1
      exact ⟨hsy, e2.2.trans (e1.2.symm.trans hb), e1.1.trans e2.1.symm⟩
  have hlast : Later ρ (Hw.set (H.length + x) (.var true m cs')) ρ (Hst H (R n) (Ak ops i)) := ⟨fun _ _ _ => rfl, fun id k ⟨b, hb, hk⟩ => by
    have : Gb Hw id k := by
      by_cases e : id = H.length + x
      · subst e
        rw [List.getElem?_set_self (by omega)] at hb
        cases hb
        exact ⟨_, geq, hk⟩
      · rw [List.getElem?_set_ne (fun e' => e e'.symm)] at hb
        exact ⟨b, hb, hk⟩
    exact (later_Hst (ρ := ρ) (fun y hy => by simp only [Ak, Ck, Bool.or_eq_true] at *; exact .inr hy)).gb id k ((c.gbView hi).1 (hvw id k this))⟩
  refine c.next I hi hS hn hS' ho L.tm' rfl (fun _ _ => rfl) (fun _ _ _ _ => rfl) hB ((c.tmlen i (Nat.le_of_lt hi)).trans I.len) (fun x' y' b hx hy hb => ?_) (fun x1 x2 y1 y2 b1 b2 g hne hx1 hx2 hy1 hy2 hb1 hb2 hw o1 o2 => ?_)
  · by_cases e : x' = x
    · subst e
      obtain ⟨rfl, e2⟩ := this_ y' b hx hb
      rw [e2]
      exact ⟨(s.rel.blk _ _ (List.getElem?_set_self (by omega))).move (fun _ => rfl) hlast, fun g hg => hxb.2 g hg⟩
    · obtain ⟨n1, n2, n3⟩ := old x' y' b hx e hy hb
      obtain ⟨i1, i2⟩ := I.ent x' y' b hx n1 n2
      rw [n3]
      exact ⟨i1.keep s.keep.size fun g hg ho => hsame g hg fun ho' => I.dis x x' y y' _ b g (fun e' => e e'.symm) hown' hx hsy n1 hblk n2 rfl ho' ho, i2⟩
  · by_cases e1 : x1 = x
    · subst e1
      obtain ⟨rfl, _⟩ := this_ y1 b1 hx1 hb1
      obtain ⟨m1, m2, _⟩ := old x2 y2 b2 hx2 (fun e => hne e.symm) hy2 hb2
      exact I.dis x1 x2 y y2 _ b2 g hne hown' hx2 hsy m1 hblk m2 rfl o1 o2
    · obtain ⟨n1, n2, _⟩ := old x1 y1 b1 hx1 e1 hy1 hb1
      by_cases e2 : x2 = x
      · subst e2
        obtain ⟨rfl, _⟩ := this_ y2 b2 hx2 hb2
        exact I.dis x1 x2 y1 y b1 _ g hne hx1 hown' n1 hsy n2 hblk hw o1 o2
      · obtain ⟨m1, m2, _⟩ := old x2 y2 b2 hx2 e2 hy2 hb2
        exact I.dis x1 x2 y1 y2 b1 b2 g hne hx1 hx2 n1 m1 n2 m2 hw o1 o2
end
end Go.Proofs.Ytbfepedjnlcgkaa.Pe
