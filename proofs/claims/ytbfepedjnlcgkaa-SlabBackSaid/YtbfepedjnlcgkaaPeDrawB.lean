/- Regions that draw their order: the run in the order in which they are listed. -/
import Derived.Test.YtbfepedjnlcgkaaPeDrawA
set_option linter.unusedVariables false
namespace Go.Proofs.Ytbfepedjnlcgkaa.Pe
open Go.RowKit
section
variable {T : Tys} {call : CallF} {ops : List Oper} {H0 : Heap} {cls : List Nat}
noncomputable def viewAt (H0 : Heap) (cls : List Nat) (i : Nat) (r : Rg) : Heap := freeze H0 ++ freeze (viewN (clAt cls i) r.own r.upd r.N)
noncomputable def stepR (T : Tys) (call : CallF) (ops : List Oper) (H0 : Heap) (cls : List Nat) (i : Nat) (o : Oper) (r : Rg) : Option Rg :=
  match o.op with
  | .store t a x => evLocal T ops H0 cls i o t a x r
  | _ => match evStep T call ops o r.tm (viewAt H0 cls i r) with
    | some (v, H') => match putT r.tm o.dst v with
      | some tm' => some ⟨tm', r.own ++ List.replicate (H'.drop (H0.length + r.N.length)).length i, r.upd ++ List.replicate (H'.drop (H0.length + r.N.length)).length none, r.N ++ H'.drop (H0.length + r.N.length)⟩
      | none => none
    | none => none
theorem evAny_cons (o : Oper) (l : List Oper) (i : Nat) (r : Rg) : evAny T call ops H0 cls (o :: l) i r = (match stepR T call ops H0 cls i o r with
    | some r' => evAny T call ops H0 cls l (i + 1) r'
    | none => none) := by
  have h : evAny T call ops H0 cls (o :: l) i r = (match o.op with
      | .store t a x => match evLocal T ops H0 cls i o t a x r with
        | some r' => evAny T call ops H0 cls l (i + 1) r'
        | none => none
      | _ => match evStep T call ops o r.tm (appL (freeze H0) (freeze (viewN (clAt cls i) r.own r.upd r.N))) with
        | some (v, H') => forceV v fun v => match putT r.tm o.dst v with
          | some tm' => evAny T call ops H0 cls l (i + 1) ⟨tm', appL r.own (List.replicate (dropL H' (H0.length + r.N.length)).length i), appL r.upd (List.replicate (dropL H' (H0.length + r.N.length)).length none), appL r.N (dropL H' (H0.length + r.N.length))⟩
          | none => none
        | none => none) := rfl
  rw [h]
  unfold stepR viewAt
  split
  · rfl
  · rw [appL_eq]
    cases hv : evStep T call ops o r.tm (freeze H0 ++ freeze (viewN (clAt cls i) r.own r.upd r.N)) with
    | none => rfl
    | some p =>
      obtain ⟨v, H'⟩ := p
      simp only [forceV_eq, appL_eq, dropL_eq]
      cases hp : putT r.tm o.dst v with
      | none => rfl
      | some tm' => rfl
theorem evAny_chain : ∀ (l : List Oper) (i : Nat) (r rf : Rg), evAny T call ops H0 cls l i r = some rf → ∃ R : Nat → Rg, R 0 = r ∧ R l.length = rf ∧ ∀ j o, l[j]? = some o → stepR T call ops H0 cls (i + j) o (R j) = some (R (j + 1))
  | [], i, r, rf, h => by cases h; exact ⟨fun _ => r, rfl, rfl, fun j o h => by simp at h⟩
  | o :: l, i, r, rf, h => by
    rw [evAny_cons] at h
    split at h
    · rename_i r' hs
      obtain ⟨R, h1, h2, h3⟩ := evAny_chain l (i + 1) r' rf h
      refine ⟨fun j => match j with
        | 0 => r
        | j + 1 => R j, rfl, h2, fun j o' hj => ?_⟩
      cases j with
      | zero =>
        simp only [List.getElem?_cons_zero, Option.some.injEq] at hj
        subst hj
        show stepR T call ops H0 cls (i + 0) o r = some (R 0)
        rw [Nat.add_zero, h1]
        exact hs
      | succ j =>
        have := h3 j o' (by simpa using hj)
        rw [show i + 1 + j = i + (j + 1) by omega] at this
        exact this
    · cases h
/-- What a step leaves of the tables. -/
structure Grown (i : Nat) (r r' : Rg) : Prop where
  lens : r.own.length = r.N.length ∧ r.upd.length = r.N.length → r'.own.length = r'.N.length ∧ r'.upd.length = r'.N.length
  how : (∃ B : Heap, r'.own = r.own ++ List.replicate B.length i ∧ r'.upd = r.upd ++ List.replicate B.length none ∧ r'.N = r.N ++ B) ∨
    (∃ (x : Nat) (b b' : Bk), r.N[x]? = some b ∧ r.upd[x]? = some none ∧ r'.own = r.own ∧ r'.upd = r.upd.set x (some i) ∧ r'.N = r.N.set x b' ∧ b'.gb = b.gb)
/-- A store into a block of the region. -/
structure Loc (T : Tys) (ops : List Oper) (H0 : Heap) (cls : List Nat) (i : Nat) (o : Oper) (r r' : Rg) (x : Nat) (t : TypeId) (pa px : Operand) (off m n : Nat) (cs ys cs' : List C) (v : V) (k : Nat) : Prop where
  op : o.op = .store t pa px
  want : wantedE ops o r.tm = some true
  pa : opnd r.tm pa = some (.c (.p (H0.length + x) off))
  px : opnd r.tm px = some v
  cells : v.cells = some (n, ys)
  ty : ∃ ti, tyAt T t = some ti ∧ n = ti.size
  blk : r.N[x]? = some (.var true m cs)
  own : r.own[x]? = some k
  upd : r.upd[x]? = some none
  sees : bit (clAt cls i) k = true
  ahead : ∀ j, j < i → bit (clAt cls j) k = true → bit (clAt cls i) j = true
  spl : splice m cs off n ys = some cs'
  own' : r'.own = r.own
  upd' : r'.upd = r.upd.set x (some i)
  N' : r'.N = r.N.set x (.var true m cs')
  tm' : putT r.tm o.dst (.c .un) = some r'.tm
theorem stepR_store {i : Nat} {o : Oper} {r r' : Rg} {t : TypeId} {pa px : Operand} (ho : o.op = .store t pa px) (h : stepR T call ops H0 cls i o r = some r') : ∃ x off m n cs ys cs' v k, Loc T ops H0 cls i o r r' x t pa px off m n cs ys cs' v k := by
  unfold stepR at h
  rw [ho] at h
  simp only [evLocal] at h
  split at h
  · rename_i id off v ti hw hpa hpx hti
    split at h
    · rename_i n ys hc
      have hq := (bif_some h).1
      replace h := (bif_some h).2
      simp only [Bool.and_eq_true] at hq
      have q1 := beq_nat hq.1
      have q2 := ble_nat hq.2
      split at h
      · rename_i m cs k hN hown hupd
        have hq2 := (bif_some h).1
        replace h := (bif_some h).2
        simp only [Bool.and_eq_true, List.all_eq_true, List.mem_range, Bool.or_eq_true, Bool.not_eq_true'] at hq2
        split at h
        · rename_i cs' hs
          split at h
          · rename_i N' upd' tm' h1 h2 h3
            cases h
            rw [getL_eq] at hN hown hupd
            obtain ⟨e1, _⟩ := setL_some _ _ _ _ h1
            obtain ⟨e2, _⟩ := setL_some _ _ _ _ h2
            have hid : H0.length + (id - H0.length) = id := by omega
            refine ⟨id - H0.length, off, m, n, cs, ys, cs', v, k, ⟨ho, hw, by rw [hid]; exact hpa, hpx, hc, ⟨ti, hti, q1⟩, hN, hown, hupd, hq2.1, fun j hj hb => ?_, hs, rfl, e2, e1, h3⟩⟩
            rcases hq2.2 j hj with h | h
            · rw [hb] at h; cases h
            · exact h
          · cases h
        · cases h
      · cases h
      
    · cases h
  · cases h
theorem stepR_other {i : Nat} {o : Oper} {r r' : Rg} (ho : ∀ t pa px, o.op ≠ .store t pa px) (h : stepR T call ops H0 cls i o r = some r') : ∃ v H', evStep T call ops o r.tm (viewAt H0 cls i r) = some (v, H') ∧ putT r.tm o.dst v = some r'.tm ∧
    r'.own = r.own ++ List.replicate (H'.drop (H0.length + r.N.length)).length i ∧ r'.upd = r.upd ++ List.replicate (H'.drop (H0.length + r.N.length)).length none ∧ r'.N = r.N ++ H'.drop (H0.length + r.N.length) := by
  unfold stepR at h
  split at h
  · rename_i t pa px hs
    exact absurd hs (ho t pa px)
  · split at h
    · rename_i v H' hv
      split at h
      · rename_i tm' hp
        cases h
        exact ⟨v, H', hv, hp, rfl, rfl, rfl⟩
      · cases h
    · cases h
theorem stepR_grown {i : Nat} {o : Oper} {r r' : Rg} (h : stepR T call ops H0 cls i o r = some r') : Grown i r r' := by
  by_cases ho : ∃ t pa px, o.op = .store t pa px
  · obtain ⟨t, pa, px, ho⟩ := ho
    obtain ⟨x, off, m, n, cs, ys, cs', v, k, L⟩ := stepR_store ho h
    refine ⟨fun ⟨h1, h2⟩ => ?_, .inr ⟨x, _, _, L.blk, L.upd, L.own', L.upd', L.N', rfl⟩⟩
    rw [L.own', L.upd', L.N']
    simp [h1, h2]
  · obtain ⟨v, H', _, _, h1, h2, h3⟩ := stepR_other (fun t pa px e => ho ⟨t, pa, px, e⟩) h
    refine ⟨fun ⟨g1, g2⟩ => ?_, .inl ⟨_, h1, h2, h3⟩⟩
    rw [h1, h2, h3]
    simp [g1, g2]
/-- The tables, from step to step. -/
structure Tab (R : Nat → Rg) (n : Nat) : Prop where
  start : (R 0).own = [] ∧ (R 0).upd = [] ∧ (R 0).N = []
  grown : ∀ i, i < n → Grown i (R i) (R (i + 1))
section
variable {R : Nat → Rg} {n : Nat}
theorem Tab.lens (h : Tab R n) : ∀ i, i ≤ n → (R i).own.length = (R i).N.length ∧ (R i).upd.length = (R i).N.length
  | 0, _ => by rw [h.start.1, h.start.2.1, h.start.2.2]; simp
  | i + 1, hi => (h.grown i (by omega)).lens (h.lens i (by omega))
/-- From a step to a later one. -/
structure Far (R : Nat → Rg) (i j : Nat) : Prop where
  len : (R i).N.length ≤ (R j).N.length
  own : ∀ x, x < (R i).N.length → (R j).own[x]? = (R i).own[x]?
  new : ∀ x y, (R i).N.length ≤ x → (R j).own[x]? = some y → i ≤ y ∧ y < j
  gb : ∀ (x : Nat) (b : Bk), (R i).N[x]? = some b → ∃ b' : Bk, (R j).N[x]? = some b' ∧ b'.gb = b.gb
  upd : ∀ x, x < (R i).N.length → ((R j).upd[x]? = (R i).upd[x]? ∧ (R j).N[x]? = (R i).N[x]?) ∨ ((R i).upd[x]? = some none ∧ ∃ u, i ≤ u ∧ u < j ∧ (R j).upd[x]? = some (some u) ∧ (R u).N[x]? = (R i).N[x]? ∧ (R (u + 1)).N[x]? = (R j).N[x]? ∧ (R u).upd[x]? = some none ∧ (R (u + 1)).upd[x]? = some (some u))
theorem Tab.far (h : Tab R n) (i : Nat) : ∀ d, i + d ≤ n → Far R i (i + d)
  | 0, hd => ⟨Nat.le_refl _, fun _ _ => rfl, fun x y hx hy => by
      have hl := (h.lens i (by omega)).1
      have := (List.getElem?_eq_some_iff.1 hy).1
      simp only [Nat.add_zero] at this
      omega, fun x b hb => ⟨b, hb, rfl⟩, fun _ _ => .inl ⟨rfl, rfl⟩⟩
  | d + 1, hd => by
    have ih := h.far i d (by omega)
    have hlj := h.lens (i + d) (by omega)
    have g := h.grown (i + d) (by omega)
    rw [show i + (d + 1) = i + d + 1 by omega]
    rcases g.how with ⟨B, g1, g2, g3⟩ | ⟨x0, b0, b0', g1, g2, g3, g4, g5, g6⟩
    · have hx : ∀ x, x < (R i).N.length → x < (R (i + d)).N.length := fun x hx => Nat.lt_of_lt_of_le hx ih.len
      refine ⟨by rw [g3, List.length_append]; have := ih.len; omega, fun x hx' => ?_, fun x y hx' hy => ?_, fun x b hb => ?_, fun x hx' => ?_⟩
      · rw [g1, List.getElem?_append_left (by rw [hlj.1]; exact hx x hx')]
        exact ih.own x hx'
      · rw [g1] at hy
        by_cases hlt : x < (R (i + d)).own.length
        · rw [List.getElem?_append_left hlt] at hy
          have := ih.new x y hx' hy
          omega
        · rw [List.getElem?_append_right (by omega), List.getElem?_replicate] at hy
          split at hy
          · cases hy; omega
          · cases hy
      · obtain ⟨b', h1, h2⟩ := ih.gb x b hb
        refine ⟨b', ?_, h2⟩
        rw [g3, List.getElem?_append_left (List.getElem?_eq_some_iff.1 h1).1]
        exact h1
      · have e1 : (R (i + d + 1)).upd[x]? = (R (i + d)).upd[x]? := by rw [g2, List.getElem?_append_left (by rw [hlj.2]; exact hx x hx')]
        have e2 : (R (i + d + 1)).N[x]? = (R (i + d)).N[x]? := by rw [g3, List.getElem?_append_left (hx x hx')]
        rcases ih.upd x hx' with ⟨u1, u2⟩ | ⟨u1, u, u2, u3, u4, u5, u6, u7⟩
        · exact .inl ⟨e1.trans u1, e2.trans u2⟩
        · exact .inr ⟨u1, u, u2, by omega, e1.trans u4, u5, u6.trans e2.symm, u7⟩
    · refine ⟨by rw [g5, List.length_set]; exact ih.len, fun x hx' => by rw [g3]; exact ih.own x hx', fun x y hx' hy => ?_, fun x b hb => ?_, fun x hx' => ?_⟩
      · rw [g3] at hy
        have := ih.new x y hx' hy
        omega
      · obtain ⟨b', h1, h2⟩ := ih.gb x b hb
        by_cases e : x = x0
        · subst e
          rw [g1] at h1
          cases h1
          refine ⟨b0', ?_, g6.trans h2⟩
          rw [g5]
          simp [(List.getElem?_eq_some_iff.1 g1).1]
        · refine ⟨b', ?_, h2⟩
          rw [g5, List.getElem?_set_ne (fun h => e h.symm)]
          exact h1
      · by_cases e : x = x0
        · subst e
          rcases ih.upd x hx' with ⟨u1, u2⟩ | ⟨u1, u, u2, u3, u4, u5, u6, u7⟩
          · have e9 : (R (i + d + 1)).upd[x]? = some (some (i + d)) := by
              rw [g4]
              simp [(List.getElem?_eq_some_iff.1 g2).1]
            exact .inr ⟨by rw [← u1]; exact g2, i + d, by omega, by omega, e9, u2, rfl, g2, e9⟩
          · rw [g2] at u4
            cases u4
        · have e1 : (R (i + d + 1)).upd[x]? = (R (i + d)).upd[x]? := by rw [g4, List.getElem?_set_ne (fun h => e h.symm)]
          have e2 : (R (i + d + 1)).N[x]? = (R (i + d)).N[x]? := by rw [g5, List.getElem?_set_ne (fun h => e h.symm)]
          rcases ih.upd x hx' with ⟨u1, u2⟩ | ⟨u1, u, u2, u3, u4, u5, u6, u7⟩
          · exact .inl ⟨e1.trans u1, e2.trans u2⟩
          · exact .inr ⟨u1, u, u2, by omega, e1.trans u4, u5, u6.trans e2.symm, u7⟩
theorem Tab.far' (h : Tab R n) {i j : Nat} (hij : i ≤ j) (hj : j ≤ n) : Far R i j := by
  have := h.far i (j - i) (by omega)
  rwa [show i + (j - i) = j by omega] at this
/-- An entry was there at a step just if its maker is ahead of the step. -/
theorem Tab.owner (h : Tab R n) {i x y : Nat} (hi : i ≤ n) (hx : (R n).own[x]? = some y) : x < (R i).N.length ↔ y < i := by
  have f := h.far' (Nat.zero_le i) hi
  have g := h.far' hi (Nat.le_refl n)
  constructor
  · intro hlt
    rw [g.own x hlt] at hx
    exact (f.new x y (by rw [h.start.2.2]; simp) hx).2
  · intro hy
    rcases Nat.lt_or_ge x (R i).N.length with h1 | h1
    · exact h1
    · have := g.new x y h1 hx
      omega
end
end
end Go.Proofs.Ytbfepedjnlcgkaa.Pe
