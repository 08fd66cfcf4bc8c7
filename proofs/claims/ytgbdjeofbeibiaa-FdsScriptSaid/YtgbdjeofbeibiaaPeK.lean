/- A plain reading of the model's code: a list that is appended to, all else kept. -/
import Derived.Test.YtgbdjeofbeibiaaPeO
set_option linter.unusedVariables false
namespace Go.Proofs.Ytgbdjeofbeibiaa.Pe
section
variable {T : Tys} {call : CallF} {op : Op} {tm : List V} {H N L : Heap} {t t2 e : TypeId} {px py : Operand} {x y : C} {sz bb n m : Nat} {cs new : List C} {a1 a2 : Nat} {a3 : List C} {a4 : List PK} {kd : TK} {zz : List C} {ks : List PK} {b1 b2 : Nat} {b3 : List C} {b4 : List PK}
theorem o_appK {aa : Array Operand} {ts : Array TypeId} (ho : op = .call ⟨.builtin .append, aa, ts⟩) (ha : opnds tm aa.toList = some [.c x, .c y]) (hts : ts.toList = [t, t]) (ht : tyAt T t = some ⟨.sl e, a1, a2, a3, a4⟩) (he : tyAt T e = some ⟨kd, sz, bb, zz, ks⟩) (h1 : 1 ≤ sz) (h2 : 1 ≤ bb) (hO : OwnR H N x sz e n cs) (hr : Rows (appL H N) y sz m new) (hm : 0 ≤ m) (hb : (n + m) * bb ≤ 140737488355328) :
    ∃ x' N', evOp T call op tm (appL H N) = some (.c x', appL H N') ∧ OwnR H N' x' sz e (n + m) (cs ++ new) ∧ (N.length ≤ N'.length ∧ x' ≠ .ns ∧ (∀ q b, getL N q = some b → (∀ c k lo z e, b ≠ .row true c k lo z e) → getL N' q = some b)) := by
  subst ho
  have hnew := hr.num
  have c1 : (Nat.ble 1 sz && Nat.ble 1 bb) = true := by simp [ble_eq]; omega
  have hrd := hr.rdSl
  have goal_ev : ∀ r, vappend T (appL H N) t t (.c x) (.c y) = r → evOp T call (.call ⟨.builtin .append, aa, ts⟩) tm (appL H N) = r := fun r h => by
    show (match opnds tm aa.toList, ts.toList with
      | some [s, x], [t, t2] => vappend T (appL H N) t t2 s x
      | _, _ => none) = _
    rw [ha, hts]; exact h
  rcases hO with ⟨rfl, rfl, rfl⟩ | ⟨j, lo, rfl, g1, g2, g3⟩
  · have c2 : Nat.ble (m * bb) 140737488355328 = true := by rw [ble_eq]; simp; simpa using hb
    have ev : vappend T (appL H N) t t (.c .ns) (.c y) = some (.c (.sl (H.length + N.length) 0 m m), appL H (appL N [.row true new m m sz e])) := by
      unfold vappend
      simp only [ht, he, Nat.beq_refl, Bool.not_true, cond_false, hrd, c1, cond_true, c2, len_app rfl, app_app rfl]
    refine ⟨.sl (H.length + N.length) 0 (0 + m) (0 + m), appL N [.row true new m m sz e], by rw [Nat.zero_add]; exact goal_ev _ ev, ?_, ?_⟩
    · refine .inr ⟨N.length, m, rfl, ?_, Nat.le_of_eq (Nat.zero_add m).symm, ?_⟩
      · rw [Nat.zero_add, List.nil_append]; exact getL_own (H := N) (j := 0) rfl
      · rw [Nat.zero_add, List.nil_append]; exact hnew
    · exact ⟨by rw [appL_eq]; simp, by simp, fun q b hq _ => getL_base hq⟩
  · have hg := getL_own (H := H) g1
    have hlt : j < N.length := by rw [getL_eq] at g1; exact (List.getElem?_eq_some_iff.1 g1).1
    have c2 : (Nat.beq 0 0 && Nat.beq n n && Nat.beq n n && Nat.beq sz sz && Nat.beq e e && Nat.ble ((n + m) * bb) 140737488355328) = true := by simp [ble_eq, hb]
    have hs : setL N (.row true (appL cs new) (n + m) lo sz e) j = some (N.set j (.row true (appL cs new) (n + m) lo sz e)) := setL_of _ _ _ hlt
    refine ⟨_, _, goal_ev (some (.c (.sl (H.length + j) 0 (n + m) (n + m)), appL H (N.set j (.row true (appL cs new) (n + m) lo sz e)))) ?_, .inr ⟨j, lo, rfl, ?_, by omega, ?_⟩, ?_⟩
    · unfold vappend
      simp only [ht, he, Nat.beq_refl, Bool.not_true, cond_false, hrd, c1, cond_true, hg]
      simp only [Nat.beq_refl] at c2
      rw [c2]
      simp only [cond_true, setL_own hs]
    · rw [getL_eq, appL_eq]; simp [hlt]
    · rw [List.length_append, g3, hnew, Nat.add_mul]
    · refine ⟨by simp, by simp, fun q b hq hb2 => ?_⟩
      by_cases e0 : j = q
      · subst e0
        rw [g1] at hq
        cases hq
        exact absurd rfl (hb2 _ _ _ _ _)
      · rw [getL_eq] at hq ⊢
        rw [List.getElem?_set, if_neg e0]
        exact hq
theorem pS_appK {ops l : List Oper} {o : Oper} {Q : List V → Heap → Prop} {aa : Array Operand} {ts : Array TypeId} {tmf : C → List V} (hw : wantedE ops o tm = some true) (ho : o.op = .call ⟨.builtin .append, aa, ts⟩) (ha : opnds tm aa.toList = some [.c x, .c y]) (hp : ∀ x', putT tm o.dst (.c x') = some (tmf x')) (hts : ts.toList = [t, t]) (ht : tyAt T t = some ⟨.sl e, a1, a2, a3, a4⟩) (he : tyAt T e = some ⟨kd, sz, bb, zz, ks⟩) (h1 : 1 ≤ sz) (h2 : 1 ≤ bb) (hO : OwnR H N x sz e n cs) (hr : Rows (appL H N) y sz m new) (hm : 0 ≤ m) (hb : (n + m) * bb ≤ 140737488355328)
    (k : ∀ x' N', OwnR H N' x' sz e (n + m) (cs ++ new) → N.length ≤ N'.length ∧ x' ≠ .ns ∧ (∀ q b, getL N q = some b → (∀ c k lo z e, b ≠ .row true c k lo z e) → getL N' q = some b) → pS T call ops l (tmf x') (appL H N') Q) : pS T call ops (o :: l) tm (appL H N) Q := by
  obtain ⟨x', N', ev, hO', hl⟩ := o_appK (call := call) (tm := tm) ho ha hts ht he h1 h2 hO hr hm hb
  exact pS_op hw ev (hp x') (k x' N' hO' hl)
end
end Go.Proofs.Ytgbdjeofbeibiaa.Pe
