/- A plain reading of the model's code: a region that draws its order, of two calls that write. -/
import Derived.Test.YtgfeohklkinccaaPeRun5
set_option linter.unusedVariables false
namespace Go.Proofs.Ytgfeohklkinccaa.Pe
open Go.RowKit
section
variable {P : Program} {T : Tys} {call : CallF} {ops : List Oper} {H H1 : Heap} {tm0 tm1 tmA : List V} {ρ0 ρ ρ' : Ren} {w0 w w' : World} {a0 a : Act} {S S' : Nat → Bool} {i1 i2 : Nat}
/-- Operations that change nothing: state by state. -/
theorem evQ_cons {o : Oper} {l : List Oper} {tm tm' : List V} (h : evQ T call ops (o :: l) tm H = some tm') : ∃ v tm2, evStep T call ops o tm H = some (v, H) ∧ putT tm o.dst v = some tm2 ∧ evQ T call ops l tm2 H = some tm' := by
  unfold evQ at h
  split at h
  · rename_i v H' hs
    split at h
    · rename_i he
      subst he
      split at h
      · rename_i tm2 hp
        exact ⟨v, tm2, hs, hp, h⟩
      · cases h
    · cases h
  · cases h
theorem evQ_chain (l : List Oper) : ∀ (tm tm' : List V), evQ T call ops l tm H = some tm' → ∃ TM : Nat → List V, TM 0 = tm ∧ TM l.length = tm' ∧ ∀ (k : Nat) (o : Oper), l[k]? = some o → ∃ v, evStep T call ops o (TM k) H = some (v, H) ∧ putT (TM k) o.dst v = some (TM (k + 1)) := by
  induction l with
  | nil =>
    intro tm tm' h
    cases h
    exact ⟨fun _ => tm, rfl, rfl, fun k o h => by simp at h⟩
  | cons o l ih =>
    intro tm tm' h
    obtain ⟨v, tm2, hs, hp, h⟩ := evQ_cons h
    obtain ⟨TM, h1, h2, h3⟩ := ih tm2 tm' h
    refine ⟨fun k => match k with
      | 0 => tm
      | k + 1 => TM k, rfl, h2, fun k o' hk => ?_⟩
    cases k with
    | zero =>
      simp at hk
      subst hk
      exact ⟨v, hs, by rw [hp, ← h1]⟩
    | succ k => exact h3 k o' (by simpa using hk)
theorem putT_ne {tm tm' : List V} {d : Option Tmp} {v : V} {t : Tmp} (h : putT tm d v = some tm') (hne : d ≠ some t) : tm'[t]? = tm[t]? := by
  cases d with
  | none => cases h; rfl
  | some d =>
    obtain ⟨rfl, _⟩ := setL_some _ _ _ _ h
    exact List.getElem?_set_ne (fun e => hne (by rw [e]))
theorem putT_eq {tm tm' : List V} {v : V} {t : Tmp} (h : putT tm (some t) v = some tm') : tm'[t]? = some v := by
  obtain ⟨rfl, hl⟩ := setL_some _ _ _ _ h
  simp [hl]
theorem chain_const {l : List Oper} {TM : Nat → List V} (h : ∀ (k : Nat) (o : Oper), l[k]? = some o → ∃ v, evStep T call ops o (TM k) H = some (v, H) ∧ putT (TM k) o.dst v = some (TM (k + 1))) {t : Tmp} : ∀ (m n : Nat), n ≤ m → m ≤ l.length → (∀ (q : Nat) (o : Oper), n ≤ q → q < m → l[q]? = some o → o.dst ≠ some t) → (TM m)[t]? = (TM n)[t]?
  | 0, n, h1, _, _ => by obtain rfl : n = 0 := by omega
                         rfl
  | m + 1, n, h1, h2, h3 => by
    by_cases e : n = m + 1
    · subst e; rfl
    · have ih := chain_const h (t := t) m n (by omega) (by omega) fun q o hq hm => h3 q o hq (by omega)
      obtain ⟨o, ho⟩ : ∃ o, l[m]? = some o := ⟨l[m], by simp [show m < l.length by omega]⟩
      obtain ⟨v, _, hp⟩ := h m o ho
      rw [putT_ne hp (h3 m o (by omega) (by omega) ho), ih]
theorem chain_len {l : List Oper} {TM : Nat → List V} (h : ∀ (k : Nat) (o : Oper), l[k]? = some o → ∃ v, evStep T call ops o (TM k) H = some (v, H) ∧ putT (TM k) o.dst v = some (TM (k + 1))) : ∀ (m : Nat), m ≤ l.length → (TM m).length = (TM 0).length
  | 0, _ => rfl
  | m + 1, h2 => by
    obtain ⟨o, ho⟩ : ∃ o, l[m]? = some o := ⟨l[m], by simp [show m < l.length by omega]⟩
    obtain ⟨v, _, hp⟩ := h m o ho
    have h3 := putT_len hp
    have h4 := chain_len h m (by omega)
    omega
/-- How far a region of two calls that write has come. -/
structure MixI (ops : List Oper) (H H1 : Heap) (tm0 tm1 : List V) (i1 i2 : Nat) (ρ0 : Ren) (w0 : World) (a0 : Act) (S : Nat → Bool) (ρ : Ren) (a : Act) (w : World) : Prop where
  low : ∀ i, S i = true → i < i2
  closed : ∀ i, S i = true → ∀ k, bit (clAt (clsOf ops []) i) k = true → S k = true
  st : Step ρ0 H w0 ρ (bif S i1 then H1 else H) w
  len : tm1.length = a.tmps.size
  t1 : ∀ (i : Nat), S i = true → ∀ (o : Oper) (t : Tmp) (v : V), ops[i]? = some o → o.dst = some t → tm1[t]? = some v → VRel ρ (bif S i1 then H1 else H) v (a.tmps.getD t undef)
  t2 : ∀ (t : Tmp) (v : V), tm0[t]? = some v → (∀ (i : Nat) (o : Oper), S i = true → ops[i]? = some o → o.dst ≠ some t) → VRel ρ (bif S i1 then H1 else H) v (a.tmps.getD t undef)
  defs : a.defers = a0.defers
/-- One more operation, of which is known what it reads and what it leaves. -/
theorem MixI.op (hT : TabOk P T) (hcall : CallOk P call) (od : Ordered ops (clsOf ops [])) (I : MixI ops H H1 tm0 tm1 i1 i2 ρ0 w0 a0 S ρ a w) {i : Nat} (hi : i < i2) (hn : S i = false) (hdep : ∀ k, bit (clAt (clsOf ops []) i) k = true → S k = true) (hS' : ∀ j, S' j = true ↔ j = i ∨ S j = true) {o : Oper} (ho : ops[i]? = some o) {tmI : List V} {v : V} {Hx : Heap}
    (hs : evStep T call ops o tmI (bif S i1 then H1 else H) = some (v, Hx)) (hx : Hx = bif S' i1 then H1 else H)
    (hl : tmI.length = tm1.length) (hr : ∀ t ∈ reads ops o, (∃ (k : Nat) (ok : Oper), bit (clAt (clsOf ops []) i) k = true ∧ ops[k]? = some ok ∧ ok.dst = some t ∧ tmI[t]? = tm1[t]?) ∨ ((∀ (k : Nat) (ok : Oper), ops[k]? = some ok → ok.dst ≠ some t) ∧ tmI[t]? = tm0[t]?))
    (hv : ∀ d, o.dst = some d → tm1[d]? = some v)
    {K : Act → World → Prop} {Q : Exit → Act → World → Prop} (k : ∀ ρ' a' w', MixI ops H H1 tm0 tm1 i1 i2 ρ0 w0 a0 S' ρ' a' w' → K a' w') : wpOp P ops.toArray Q i K a w := by
  have rd : ∀ t ∈ reads ops o, ∀ u, tmI[t]? = some u → VRel ρ (bif S i1 then H1 else H) u (a.tmps.getD t undef) := fun t ht u hu => by
    rcases hr t ht with ⟨k, ok, h1, h2, h3, h4⟩ | ⟨h1, h2⟩
    · exact I.t1 k (hdep k h1) ok t u h2 h3 (by rw [← h4]; exact hu)
    · exact I.t2 t u (by rw [← h2]; exact hu) fun k ok _ hk => h1 k ok hk
  have next : ∀ {ρ1 : Ren} {w1 : World} {cv : Value}, VRel ρ1 Hx v cv → Step ρ (bif S i1 then H1 else H) w ρ1 Hx w1 → MixI ops H H1 tm0 tm1 i1 i2 ρ0 w0 a0 S' ρ1 (a.put o.dst cv) w1 := by
    intro ρ1 w1 cv hvr s1
    subst hx
    have dne : ∀ j oj d, j ≠ i → ops[j]? = some oj → oj.dst = some d → o.dst ≠ some d := fun j oj d hj hoj hd => (od.ap i j o oj d (fun e => hj e.symm) ho hoj hd).1
    refine ⟨fun j hj => ?_, fun j hj q hq => ?_, I.st.trans s1, by rw [put_size]; exact I.len, fun j hj oj t u hoj hd hu => ?_, fun t u hu hall => ?_, by rw [put_defers]; exact I.defs⟩
    · rcases (hS' j).1 hj with rfl | hj
      · exact hi
      · exact I.low j hj
    · rcases (hS' j).1 hj with rfl | hj
      · exact (hS' q).2 (.inr (hdep q hq))
      · exact (hS' q).2 (.inr (I.closed j hj q hq))
    · by_cases e : j = i
      · subst e
        rw [ho] at hoj
        cases hoj
        have hlt : t < a.tmps.size := by rw [← I.len]; exact (List.getElem?_eq_some_iff.1 hu).1
        rw [hd, put_eq a _ hlt]
        rw [hv t hd] at hu
        cases hu
        exact hvr
      · have hj' := ((hS' j).1 hj).resolve_left e
        rw [put_ne a _ (dne j oj t e hoj hd)]
        exact (I.t1 j hj' oj t u hoj hd hu).later s1.later
    · rw [put_ne a _ (hall i o ((hS' i).2 (.inl rfl)) ho)]
      exact (I.t2 t u hu fun j oj hj hoj => hall j oj ((hS' j).2 (.inr hj)) hoj).later s1.later
  have hi' : ops.toArray[i]? = some o := by simpa using ho
  have hwant : ∀ {bb : Bool}, wantedE ops o tmI = some bb → Region.wanted o (yielded ops.toArray a.tmps) = bb := fun hw => by
    refine wanted_rel' (ρ := ρ) (H := bif S i1 then H1 else H) (fun j want d x hg hd hx => ?_) hw
    have hrd : d ∈ reads ops o := by
      unfold reads
      refine List.mem_append_right _ ?_
      rw [hg]
      simp [hd]
    have h1 := rd d hrd x hx
    have hlt : d < a.tmps.size := by
      rw [← I.len, ← hl]
      exact (List.getElem?_eq_some_iff.1 hx).1
    exact ⟨a.tmps[d], by simp [hlt], by simpa [hlt] using h1⟩
  unfold wpOp
  simp only [hi']
  unfold evStep at hs
  split at hs
  · rename_i hw
    rw [hwant hw]
    simp only [if_true]
    refine .inl (evOp_goes hT hcall hs (fun x hxm u hu => ?_) I.st.rel K Q fun cv ρ1 w1 g1 g2 => k _ _ _ (next g1 g2))
    cases x with
    | tmp t => exact rd t (mem_reads hxm) u (by rw [← getL_eq]; exact hu)
    | const c => exact valOf_rel hu
    | global g => cases hu
    | func f => cases hu
  · rename_i hw
    rw [hwant hw]
    cases hs
    exact k _ _ _ (next (cv := undef) rfl (Step.refl I.st.rel))
  · cases hs
theorem mixB_spec {cls : List Nat} (h : mixB ops cls i1 i2 = true) : (apartB ops cls = true ∧ orderB cls ops.length = true) ∧ i1 < i2 ∧ i2 ≤ ops.length ∧ (∀ j, i2 ≤ j → j < ops.length → ∀ i, i < j → bit (clAt cls j) i = true) ∧ (∀ i, i < i1 → bit (clAt cls i1) i = true) ∧ (∀ j, j < i2 → i1 < j → bit (clAt cls j) i1 = false) ∧
    (∀ (i k : Nat) (oi ok : Oper) (d : Tmp), i < ops.length → k < ops.length → i ≤ k → ops[i]? = some oi → ops[k]? = some ok → ok.dst = some d → d ∉ reads ops oi) := by
  unfold mixB at h
  simp only [Bool.and_eq_true, List.all_eq_true, List.mem_range, Bool.or_eq_true, Nat.ble_eq, Bool.not_eq_true'] at h
  obtain ⟨⟨⟨⟨⟨⟨⟨⟨h1, _⟩, h3⟩, h4⟩, h5⟩, h6⟩, h7⟩, h8⟩, h9⟩ := h
  refine ⟨⟨h1, h3⟩, h4, h5, fun j hj hl i hi => ?_, h7, fun j hj hi => ?_, fun i k oi ok d hi hk hik hoi hok hd => ?_⟩
  · rcases h6 j hl with h | h
    · omega
    · exact h i hi
  · rcases h8 j hj with h | h
    · omega
    · exact h
  · rcases h9 i hi k hk with h | h
    · omega
    · unfold gdst at h
      rw [getL_eq, getL_eq, hoi, hok] at h
      simp only [hd] at h
      simpa using h
/-- What is known of a region of two calls that write. -/
structure MixC (P : Program) (T : Tys) (call : CallF) (ops : List Oper) (H H1 : Heap) (tm0 tmA tm1 : List V) (i1 i2 : Nat) : Prop where
  hT : TabOk P T
  hcall : CallOk P call
  od : Ordered ops (clsOf ops [])
  h12 : i1 < i2
  h2n : i2 ≤ ops.length
  tail : ∀ j, i2 ≤ j → j < ops.length → ∀ i, i < j → bit (clAt (clsOf ops []) j) i = true
  hA : ∀ i, i < i1 → bit (clAt (clsOf ops []) i1) i = true
  hB : ∀ j, j < i2 → i1 < j → bit (clAt (clsOf ops []) j) i1 = false
  fr : ∀ (i k : Nat) (oi ok : Oper) (d : Tmp), i < ops.length → k < ops.length → i ≤ k → ops[i]? = some oi → ops[k]? = some ok → ok.dst = some d → d ∉ reads ops oi
  o1 : ∃ o1 v1, ops[i1]? = some o1 ∧ evStep T call ops o1 tmA H = some (v1, H1) ∧ putT tmA o1.dst v1 = some tm1
  qA : evQ T call ops (ops.take i1 ++ (ops.take i2).drop (i1 + 1)) tm0 H = some tmA
  qB : evQ T call ops ((ops.take i2).drop (i1 + 1)) tm1 H1 = some tm1
theorem at_B {q : Nat} (hq : i1 + 1 + q < i2) : ((ops.take i2).drop (i1 + 1))[q]? = ops[i1 + 1 + q]? := by
  rw [List.getElem?_drop, List.getElem?_take, if_pos hq]
theorem at_A1 {q : Nat} (h12 : i1 < i2) (h2 : i2 ≤ ops.length) (hq : q < i1) : (ops.take i1 ++ (ops.take i2).drop (i1 + 1))[q]? = ops[q]? := by
  rw [List.getElem?_append_left (by rw [List.length_take]; omega), List.getElem?_take, if_pos hq]
theorem at_A2 {q : Nat} (h12 : i1 < i2) (h2 : i2 ≤ ops.length) (hq : i1 ≤ q) (hq2 : q + 1 < i2) : (ops.take i1 ++ (ops.take i2).drop (i1 + 1))[q]? = ops[q + 1]? := by
  rw [List.getElem?_append_right (by rw [List.length_take]; omega), List.length_take, Nat.min_eq_left (by omega), at_B (by omega)]
  congr 1; omega
theorem len_A (h12 : i1 < i2) (h2 : i2 ≤ ops.length) : (ops.take i1 ++ (ops.take i2).drop (i1 + 1)).length = i2 - 1 := by
  rw [List.length_append, List.length_take, List.length_drop, List.length_take]; omega
theorem len_B (h12 : i1 < i2) (h2 : i2 ≤ ops.length) : ((ops.take i2).drop (i1 + 1)).length = i2 - 1 - i1 := by
  rw [List.length_drop, List.length_take]; omega
/-- A place of the list that leaves i1 out, as a place of the region. -/
def plA (i1 q : Nat) : Nat := if q < i1 then q else q + 1
theorem at_A {q : Nat} (h12 : i1 < i2) (h2 : i2 ≤ ops.length) (hq : q < i2 - 1) : (ops.take i1 ++ (ops.take i2).drop (i1 + 1))[q]? = ops[plA i1 q]? := by
  unfold plA
  split
  · rename_i h; exact at_A1 h12 h2 h
  · exact at_A2 h12 h2 (by omega) (by omega)
theorem MixC.dist (c : MixC P T call ops H H1 tm0 tmA tm1 i1 i2) {i j : Nat} {oi oj : Oper} {d : Tmp} (hne : i ≠ j) (hi : ops[i]? = some oi) (hj : ops[j]? = some oj) (hd : oj.dst = some d) : oi.dst ≠ some d := (c.od.ap i j oi oj d hne hi hj hd).1
theorem MixC.rdby (c : MixC P T call ops H H1 tm0 tmA tm1 i1 i2) {i : Nat} {oi : Oper} {t : Tmp} (hi : ops[i]? = some oi) (ht : t ∈ reads ops oi) : (∃ (k : Nat) (ok : Oper), k < i ∧ bit (clAt (clsOf ops []) i) k = true ∧ ops[k]? = some ok ∧ ok.dst = some t) ∨ (∀ (k : Nat) (ok : Oper), ops[k]? = some ok → ok.dst ≠ some t) := by
  rcases Classical.em (∃ (k : Nat) (ok : Oper), ops[k]? = some ok ∧ ok.dst = some t) with ⟨k, ok, hk, hd⟩ | hno
  · have hil := (List.getElem?_eq_some_iff.1 hi).1
    have hkl := (List.getElem?_eq_some_iff.1 hk).1
    have hlt : k < i := by
      rcases Nat.lt_or_ge k i with h | h
      · exact h
      · exact absurd ht (c.fr i k oi ok t hil hkl h hi hk hd)
    refine .inl ⟨k, ok, hlt, ?_, hk, hd⟩
    rcases (c.od.ap i k oi ok t (by omega) hi hk hd).2 with h | h | h
    · exact h
    · have := c.od.lt k hkl i h; omega
    · exact absurd ht h
  · exact .inr fun k ok hk hd => hno ⟨k, ok, hk, hd⟩
theorem MixC.one (c : MixC P T call ops H H1 tm0 tmA tm1 i1 i2) (I : MixI ops H H1 tm0 tm1 i1 i2 ρ0 w0 a0 S ρ a w) {i : Nat} (hi : i < i2) (hn : S i = false) (hdep : ∀ k, bit (clAt (clsOf ops []) i) k = true → S k = true) (hS' : ∀ j, S' j = true ↔ j = i ∨ S j = true)
    {K : Act → World → Prop} {Q : Exit → Act → World → Prop} (k : ∀ ρ' a' w', MixI ops H H1 tm0 tm1 i1 i2 ρ0 w0 a0 S' ρ' a' w' → K a' w') : wpOp P ops.toArray Q i K a w := by
  have h12 := c.h12
  have h2n := c.h2n
  obtain ⟨o, ho⟩ : ∃ o, ops[i]? = some o := ⟨ops[i], by simp [show i < ops.length by omega]⟩
  obtain ⟨TM, m1, m2, m3⟩ := evQ_chain _ _ _ c.qA
  obtain ⟨TB, b1, b2, b3⟩ := evQ_chain _ _ _ c.qB
  obtain ⟨o1, v1, ho1, hs1, hp1⟩ := c.o1
  have lA := len_A (ops := ops) h12 h2n
  have lB := len_B (ops := ops) h12 h2n
  rw [lA] at m2
  rw [lB] at b2
  have hlA : ∀ q, q ≤ i2 - 1 → (TM q).length = tm1.length := fun q hq => by
    have e1 := chain_len m3 q (by omega)
    have e2 := chain_len m3 (i2 - 1) (by omega)
    have e3 := putT_len hp1
    rw [m2] at e2
    omega
  have hlB : ∀ q, q ≤ i2 - 1 - i1 → (TB q).length = tm1.length := fun q hq => by
    have e1 := chain_len b3 q (by omega)
    rw [b1] at e1
    exact e1
  have keepA : ∀ q o d, q < i2 - 1 → ops[plA i1 q]? = some o → o.dst = some d → ∀ m, q < m → m ≤ i2 - 1 → (TM m)[d]? = (TM (q + 1))[d]? := fun q o d hq ho hd m hm hm2 =>
    chain_const m3 m (q + 1) (by omega) (by omega) fun q' o' h1 h2 h3 => by
      rw [at_A h12 h2n (by omega)] at h3
      exact c.dist (i := plA i1 q') (j := plA i1 q) (by unfold plA; split <;> split <;> omega) h3 ho hd
  have noA : ∀ d, (∀ (k : Nat) (ok : Oper), ops[k]? = some ok → ok.dst ≠ some d) → ∀ m, m ≤ i2 - 1 → (TM m)[d]? = tm0[d]? := fun d hno m hm => by
    rw [chain_const m3 m 0 (by omega) (by omega) fun q' o' h1 h2 h3 => by
      rw [at_A h12 h2n (by omega)] at h3
      exact hno _ _ h3, m1]
  have tail1 : ∀ d, o1.dst ≠ some d → tm1[d]? = tmA[d]? := fun d hd => putT_ne hp1 hd
  cases hS1 : S i1 with
  | false =>
    by_cases e : i = i1
    · subst e
      rw [ho] at ho1
      cases ho1
      refine I.op c.hT c.hcall c.od hi hn hdep hS' ho (tmI := tmA) (v := v1) (Hx := H1) (by rw [hS1]; exact hs1) ?_ ?_ (fun t ht => ?_) (fun d hd => ?_) k
      · rw [(hS' i).2 (.inl rfl)]; rfl
      · have := hlA (i2 - 1) (Nat.le_refl _); rw [m2] at this; exact this
      · rcases c.rdby ho ht with ⟨k, ok, h1, h2, h3, h4⟩ | hno
        · exact .inl ⟨k, ok, h2, h3, h4, (tail1 t (c.dist (by omega) ho h3 h4)).symm⟩
        · refine .inr ⟨hno, ?_⟩
          rw [← m2]; exact noA t hno _ (Nat.le_refl _)
      · rw [hd] at hp1; exact putT_eq hp1
    · obtain ⟨q, hq, hqi⟩ : ∃ q, q < i2 - 1 ∧ plA i1 q = i := by
        rcases Nat.lt_or_ge i i1 with h | h
        · exact ⟨i, by omega, by unfold plA; rw [if_pos h]⟩
        · exact ⟨i - 1, by omega, by unfold plA; rw [if_neg (by omega)]; omega⟩
      obtain ⟨v, hs, hp⟩ := m3 q o (by rw [at_A h12 h2n hq, hqi]; exact ho)
      have hS1' : S' i1 = false := by
        cases h : S' i1 with
        | false => rfl
        | true =>
          rcases (hS' i1).1 h with h | h
          · exact absurd h.symm e
          · rw [hS1] at h; cases h
      refine I.op c.hT c.hcall c.od hi hn hdep hS' ho (tmI := TM q) (v := v) (Hx := H) (by rw [hS1]; exact hs) (by rw [hS1']; rfl) (hlA q (by omega)) (fun t ht => ?_) (fun d hd => ?_) k
      · rcases c.rdby ho ht with ⟨k, ok, h1, h2, h3, h4⟩ | hno
        · refine .inl ⟨k, ok, h2, h3, h4, ?_⟩
          have hk1 : k ≠ i1 := fun e' => by
            subst e'
            rw [c.hB i hi h1] at h2; cases h2
          obtain ⟨q', hq', hqk⟩ : ∃ q', q' < q ∧ plA i1 q' = k := by
            unfold plA at hqi
            rcases Nat.lt_or_ge k i1 with h | h
            · refine ⟨k, ?_, by unfold plA; rw [if_pos h]⟩
              split at hqi <;> omega
            · refine ⟨k - 1, ?_, by unfold plA; rw [if_neg (by omega)]; omega⟩
              split at hqi <;> omega
          have e1 := keepA q' ok t (by omega) (by rw [hqk]; exact h3) h4 q hq' (by omega)
          have e2 := keepA q' ok t (by omega) (by rw [hqk]; exact h3) h4 (i2 - 1) (by omega) (Nat.le_refl _)
          rw [e1, ← e2, m2]
          exact (tail1 t (c.dist (fun e' => hk1 e'.symm) ho1 h3 h4)).symm
        · exact .inr ⟨hno, noA t hno q (by omega)⟩
      · rw [tail1 d (c.dist (fun e' => e e'.symm) ho1 ho hd), ← m2, keepA q o d hq (by rw [hqi]; exact ho) hd (i2 - 1) (by omega) (Nat.le_refl _)]
        rw [hd] at hp; exact putT_eq hp
  | true =>
    have hi1 : i1 < i := by
      rcases Nat.lt_trichotomy i i1 with h | h | h
      · rw [I.closed i1 hS1 i (c.hA i h)] at hn; cases hn
      · subst h; rw [hS1] at hn; cases hn
      · exact h
    obtain ⟨q, hq⟩ : ∃ q, i = i1 + 1 + q := ⟨i - (i1 + 1), by omega⟩
    obtain ⟨v, hs, hp⟩ := b3 q o (by rw [at_B (by omega), ← hq]; exact ho)
    have keepB : ∀ q o d, q < i2 - 1 - i1 → ops[i1 + 1 + q]? = some o → o.dst = some d → ∀ m, q < m → m ≤ i2 - 1 - i1 → (TB m)[d]? = (TB (q + 1))[d]? := fun q o d hq ho hd m hm hm2 =>
      chain_const b3 m (q + 1) (by omega) (by omega) fun q' o' h1 h2 h3 => by
        rw [at_B (by omega)] at h3
        exact c.dist (i := i1 + 1 + q') (j := i1 + 1 + q) (by omega) h3 ho hd
    refine I.op c.hT c.hcall c.od hi hn hdep hS' ho (tmI := TB q) (v := v) (Hx := H1) (by rw [hS1]; exact hs) (by rw [(hS' i1).2 (.inr hS1)]; rfl) (hlB q (by omega)) (fun t ht => ?_) (fun d hd => ?_) k
    · rcases c.rdby ho ht with ⟨k, ok, h1, h2, h3, h4⟩ | hno
      · refine .inl ⟨k, ok, h2, h3, h4, ?_⟩
        have hk1 : k ≠ i1 := fun e' => by
          subst e'
          rw [c.hB i hi h1] at h2; cases h2
        rcases Nat.lt_or_ge k i1 with h | h
        · rw [chain_const b3 q 0 (by omega) (by omega) fun q' o' g1 g2 g3 => by
            rw [at_B (by omega)] at g3
            exact c.dist (i := i1 + 1 + q') (j := k) (by omega) g3 h3 h4, b1]
        · obtain ⟨q', hq'⟩ : ∃ q', k = i1 + 1 + q' := ⟨k - (i1 + 1), by omega⟩
          subst hq'
          rw [keepB q' ok t (by omega) h3 h4 q (by omega) (by omega), ← keepB q' ok t (by omega) h3 h4 (i2 - 1 - i1) (by omega) (Nat.le_refl _), b2]
      · refine .inr ⟨hno, ?_⟩
        rw [chain_const b3 q 0 (by omega) (by omega) fun q' o' g1 g2 g3 => by
          rw [at_B (by omega)] at g3
          exact hno _ _ g3, b1, tail1 t (hno _ _ ho1), ← m2]
        exact noA t hno _ (Nat.le_refl _)
    · rw [← b2, keepB q o d (by omega) (by rw [← hq]; exact ho) hd (i2 - 1 - i1) (by omega) (Nat.le_refl _)]
      rw [hd] at hp; exact putT_eq hp
theorem MixC.goes (c : MixC P T call ops H H1 tm0 tmA tm1 i1 i2) {Q : Exit → Act → World → Prop} {tm' : List V} {H' : Heap} (h : evSeq T call ops (ops.drop i2) tm1 H1 = some (tm', H'))
    (hQ : ∀ a' ρ' w', TRel ρ' H' tm' a'.tmps → a'.defers = a0.defers → Step ρ0 H w0 ρ' H' w' → Q .normal a' w') : ∀ (fuel : Nat) (listed : Array Bool) {ρ : Ren} {w : World} {a : Act}, listed.size = ops.length → listed.toList.count false = fuel →
    MixI ops H H1 tm0 tm1 i1 i2 ρ0 w0 a0 (fun j => listed.getD j false) ρ a w → wpAny P .any ops.toArray Q fuel listed a w := by
  have h12 := c.h12
  have h2n := c.h2n
  have finish : ∀ (fuel : Nat) (listed : Array Bool) {ρ : Ren} {w : World} {a : Act}, listed.size = ops.length → listed.toList.count false = fuel →
    MixI ops H H1 tm0 tm1 i1 i2 ρ0 w0 a0 (fun j => listed.getD j false) ρ a w → (∀ j, j < i2 → listed.getD j false = true) → wpAny P .any ops.toArray Q fuel listed a w := by
    intro fuel listed ρ w a hs hf I hall
    have e1 : (bif (fun j => listed.getD j false) i1 then H1 else H) = H1 := by
      simp only [hall i1 h12]; rfl
    have st := I.st
    have t1 := I.t1
    have t2 := I.t2
    rw [e1] at st t1 t2
    have ht : TRel ρ H1 tm1 a.tmps := ⟨I.len, fun t v hv => by
      rcases Classical.em (∃ (k : Nat) (ok : Oper), k < i2 ∧ ops[k]? = some ok ∧ ok.dst = some t) with ⟨k, ok, hk, h3, h4⟩ | hno
      · exact t1 k (hall k hk) ok t v h3 h4 hv
      · have hno' : ∀ (k : Nat) (ok : Oper), k < i2 → ops[k]? = some ok → ok.dst ≠ some t := fun k ok hk h3 h4 => hno ⟨k, ok, hk, h3, h4⟩
        refine t2 t v ?_ fun i o hi ho => hno' i o (I.low i hi) ho
        obtain ⟨TM, m1, m2, m3⟩ := evQ_chain _ _ _ c.qA
        obtain ⟨o1, v1, ho1, hs1, hp1⟩ := c.o1
        have lA := len_A (ops := ops) h12 h2n
        rw [← hv, putT_ne hp1 (hno' _ _ h12 ho1), ← m2, ← m1]
        exact (chain_const m3 _ 0 (Nat.zero_le _) (Nat.le_refl _) fun q' o' h1 h2 h3 => by
          rw [at_A h12 h2n (by omega)] at h3
          exact hno' _ _ (by unfold plA; split <;> omega) h3).symm⟩
    exact tail_goes c.hT c.hcall c.od (n0 := i2) (fun j h1 h2 i hi => .inl (c.tail j h1 h2 i hi)) fuel (ops.drop i2) i2 listed rfl (Nat.le_refl _) h2n hs hf I.low (fun j h1 h2 => by rw [hall j h1] at h2; cases h2) I.closed ⟨rfl, rfl, fun _ _ => rfl, fun i o x d hp => by rw [hall i hp.1] at hp; cases hp.2⟩ h ht st.rel fun a' ρ' w' t' d' s' => hQ a' ρ' w' t' (d'.trans I.defs) (st.trans s')
  intro fuel
  induction fuel with
  | zero =>
    intro listed ρ w a hs hf I
    exact finish 0 listed hs hf I fun j hj => all_listed hf j (by omega)
  | succ fuel ih =>
    intro listed ρ w a hs hf I
    rcases Classical.em (∀ j, j < i2 → listed.getD j false = true) with hall | hno
    · exact finish _ listed hs hf I hall
    · have ⟨j, hj⟩ := Classical.not_forall.1 hno
      have ⟨hjn, hj2⟩ := Classical.not_imp.1 hj
      have hjf : listed.getD j false = false := by
        cases hq : listed.getD j false with
        | false => rfl
        | true => exact absurd hq hj2
      obtain ⟨i0, i1', i2', i3⟩ := least (p := fun j => listed.getD j false) j j (Nat.le_refl _) hjf
      refine ⟨fun e => ?_, fun i hi => ?_⟩
      · have := ready_of c.od hs (by omega) i2' i3
        rw [e] at this
        cases this
      · obtain ⟨q1, q2, q3⟩ := ready_deps I.closed hi
        have hin : i < i2 := by
          rcases Nat.lt_or_ge i i2 with h1 | h1
          · exact h1
          · exfalso
            have := q3 j (c.tail i h1 q1 j (by omega))
            rw [hjf] at this; cases this
        have his : i < listed.size := by omega
        have hif : listed.getD i false = false := by rw [← getD_both his]; exact q2
        exact c.one I hin hif q3 (set_listed his) fun ρ' a' w' J => ih _ (by simpa using hs) (by have := count_listed his q2; omega) J
theorem evMix_goes {H' : Heap} (hT : TabOk P T) (hcall : CallOk P call) (hm : P.follows .mixedOrders = true) {ops : Array Oper} {id : Nat} {Q : Exit → Act → World → Prop} {tm tm' : List V} (h : evMix T call ops.toList i1 i2 tm H = some (tm', H')) (ht : TRel ρ H tm a.tmps) (hH : HRel ρ H w)
    (hQ : ∀ a' ρ' w', TRel ρ' H' tm' a'.tmps → a'.defers = a.defers → Step ρ H w ρ' H' w' → Q .normal a' w') : (Code.region id ops true).wp P Q a w := by
  refine wp_region_any hm ?_
  have hHd : HRel ρ H { w with drawn := w.drawn + 1 } := ⟨fun id b hb => (hH.blk id b hb).keep (Nat.le_refl _) fun _ _ _ => rfl, hH.dis⟩
  have hsd : Step ρ H w ρ H { w with drawn := w.drawn + 1 } := ⟨hHd, fun _ _ _ => rfl, fun id b hb => ⟨b, hb, Nat.le_refl _, fun _ => rfl⟩, ⟨rfl, rfl, rfl, Nat.le_refl _, fun _ _ _ => rfl⟩, fun id b g hb ho => .inr ⟨b, hb, ho⟩⟩
  unfold evMix at h
  obtain ⟨hb, h⟩ := bif_some h
  obtain ⟨⟨hap, hor⟩, h12, h2n, htail, hA, hB, hfr⟩ := mixB_spec hb
  have od := ordered_of hor hap
  rw [getL_eq] at h
  split at h
  · rename_i o1 tmA ho1 hqA
    split at h
    · rename_i v1 H1 hs1
      split at h
      · rename_i tm1 hp1
        split at h
        · rename_i hqB
          have c : MixC P T call ops.toList H H1 tm tmA tm1 i1 i2 := ⟨hT, hcall, od, h12, h2n, htail, hA, hB, hfr, ⟨o1, v1, ho1, hs1, hp1⟩, hqA, hqB⟩
          have hfalse : ∀ j, (Array.replicate ops.size false).getD j false = false := fun j => by
            cases hq : (Array.replicate ops.size false).getD j false with
            | false => rfl
            | true =>
              have := listed_size hq
              simp at this
              simp [this] at hq
          have no : ∀ {j : Nat} {p : Prop}, (Array.replicate ops.size false).getD j false = true → p := fun h => by rw [hfalse] at h; cases h
          refine c.goes (ρ := ρ) (ρ0 := ρ) (a0 := a) h (fun a' ρ' w' t' d' s' => hQ a' ρ' w' t' d' (hsd.trans s')) ops.size (Array.replicate ops.size false) (by simp) (by simp) ?_
          have e1 : (bif (fun j => (Array.replicate ops.size false).getD j false) i1 then H1 else H) = H := by
            simp only [hfalse i1]; rfl
          refine ⟨fun i hi => no hi, fun i hi => no hi, ?_, ?_, fun i hi => no hi, fun t v hv _ => ?_, rfl⟩
          · rw [e1]; exact Step.refl hHd
          · obtain ⟨TM, m1, m2, m3⟩ := evQ_chain _ _ _ hqA
            have h1 := chain_len m3 _ (Nat.le_refl _)
            have h2 := putT_len hp1
            rw [m2, m1] at h1
            rw [← ht.len]; omega
          · rw [e1]; exact ht.val t v hv
        · cases h
      · cases h
    · cases h
  · cases h
theorem evDrawM_goes {H' : Heap} (hT : TabOk P T) (hcall : CallOk P call) (hm : P.follows .mixedOrders = true) {ops : Array Oper} {id : Nat} {Q : Exit → Act → World → Prop} {tm tm' : List V} (h : evDrawM T call ops.toList tm H = some (tm', H')) (ht : TRel ρ H tm a.tmps) (hH : HRel ρ H w)
    (hQ : ∀ a' ρ' w', TRel ρ' H' tm' a'.tmps → a'.defers = a.defers → Step ρ H w ρ' H' w' → Q .normal a' w') : (Code.region id ops true).wp P Q a w := by
  unfold evDrawM at h
  split at h
  · exact evMix_goes hT hcall hm h ht hH hQ
  · exact evDraw_goes hT hcall hm h ht hH hQ
end
end Go.Proofs.Ytgfeohklkinccaa.Pe
