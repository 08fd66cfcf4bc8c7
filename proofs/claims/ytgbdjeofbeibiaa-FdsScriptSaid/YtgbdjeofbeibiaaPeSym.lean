/- A plain reading of the model's code: its equations, for symbolic steps. -/
import Derived.Test.YtgbdjeofbeibiaaPeExt
set_option linter.unusedVariables false
namespace Go.Proofs.Ytgbdjeofbeibiaa.Pe
open Go.RowKit
section
variable {T : Tys} {F : Fns} {K : Nat} {call : CallF}
theorem evC_skip (s : St) : evC T call K .skip s = some (.normal, s) := rfl
theorem evC_seq (a b : Code) (s : St) : evC T call K (.seq a b) s = (match evC T call K a s with
    | some (.normal, s') => evC T call K b s'
    | r => r) := rfl
theorem evC_region (i : Nat) (ops : Array Oper) (s : St) : evC T call K (.region i ops false) s = (match evSeq T call ops.toList ops.toList s.tm s.H with
    | some (tm, H) => some (.normal, ⟨tm, H⟩)
    | none => none) := rfl
theorem evC_cond (c : Operand) (a b : Code) (s : St) : evC T call K (.cond c a b) s = (match opnd s.tm c with
    | some (.c (.b x)) => bif x then evC T call K a s else evC T call K b s
    | _ => none) := rfl
theorem evC_block (i : Nat) (a : Code) (s : St) : evC T call K (.block i a) s = (match evC T call K a s with
    | some (.exit j, s') => bif Nat.beq j i then some (.normal, s') else some (.exit j, s')
    | r => r) := rfl
theorem evC_loop (a : Code) (s : St) : evC T call K (.loop a) s = iter (evC T call K a) K s := rfl
theorem evC_exit (i : Nat) (s : St) : evC T call K (.exit i) s = some (.exit i, s) := rfl
theorem evC_ret (s : St) : evC T call K .ret s = some (.ret, s) := rfl
theorem evSeq_nil {ops : List Oper} {tm : List V} {H : Heap} : evSeq T call ops [] tm H = some (tm, H) := rfl
/-! ### what holds behind -/
structure pS (T : Tys) (call : CallF) (ops l : List Oper) (tm : List V) (H : Heap) (Q : List V → Heap → Prop) : Prop where
  out : ∃ tm' H', evSeq T call ops l tm H = some (tm', H') ∧ Q tm' H'
structure pC (T : Tys) (call : CallF) (K : Nat) (c : Code) (s : St) (Q : Ex → St → Prop) : Prop where
  out : ∃ ex s', evC T call K c s = some (ex, s') ∧ Q ex s'
structure pF (call : CallF) (f : FuncId) (args : List V) (H : Heap) (Q : V → Heap → Prop) : Prop where
  out : ∃ v H', call f args H = some (v, H') ∧ Q v H'
section
variable {ops l : List Oper} {o : Oper} {tm tm' : List V} {H H' : Heap} {v : V} {Q : List V → Heap → Prop} {R : Ex → St → Prop} {s : St} {a b : Code} {i : Nat}
theorem pS_nil (h : Q tm H) : pS T call ops [] tm H Q := ⟨tm, H, rfl, h⟩
/-- One operation that is carried out in its turn. -/
theorem pS_op (hw : wantedE ops o tm = some true) (h : evOp T call o.op tm H = some (v, H')) (hp : putT tm o.dst v = some tm') (k : pS T call ops l tm' H' Q) : pS T call ops (o :: l) tm H Q := by
  obtain ⟨t, h2, e, q⟩ := k
  refine ⟨t, h2, ?_, q⟩
  rw [evSeq_cons]
  unfold evStep
  rw [hw]
  simp only [h, hp, e]
/-- .. that is let be. -/
theorem pS_no (hw : wantedE ops o tm = some false) (hp : putT tm o.dst (.c .un) = some tm') (k : pS T call ops l tm' H Q) : pS T call ops (o :: l) tm H Q := by
  obtain ⟨t, h2, e, q⟩ := k
  refine ⟨t, h2, ?_, q⟩
  rw [evSeq_cons]
  unfold evStep
  rw [hw]
  simp only [hp, e]
/-- A test: both of its answers. -/
theorem pS_test {x : Bool} {tt tf : List V} (hw : wantedE ops o tm = some true) (h : evOp T call o.op tm H = some (.c (.b x), H')) (hp : putT tm o.dst (.c (.b true)) = some tt) (hq : putT tm o.dst (.c (.b false)) = some tf)
    (k1 : x = true → pS T call ops l tt H' Q) (k2 : x = false → pS T call ops l tf H' Q) : pS T call ops (o :: l) tm H Q := by
  cases x with
  | true => exact pS_op hw h hp (k1 rfl)
  | false => exact pS_op hw h hq (k2 rfl)
/-- A value in another spelling. -/
theorem pS_as {v' : V} (hw : wantedE ops o tm = some true) (h : evOp T call o.op tm H = some (v, H')) (e : v = v') (hp : putT tm o.dst v' = some tm') (k : pS T call ops l tm' H' Q) : pS T call ops (o :: l) tm H Q := by
  subst e
  exact pS_op hw h hp k
/-- A call whose answer is known (the call's own reading is asked in memory that is only read). -/
theorem pS_call {f : FuncId} {as : Array Operand} {ts : Array TypeId} {vs : List V} {r : V × Heap} (hw : wantedE ops o tm = some true) (ho : o.op = .call ⟨.value (.func f), as, ts⟩) (ha : opnds tm as.toList = some vs) (h : vcall call f vs H = some r) (hp : putT tm o.dst r.1 = some tm') (k : pS T call ops l tm' r.2 Q) : pS T call ops (o :: l) tm H Q := by
  refine pS_op (v := r.1) (H' := r.2) hw ?_ hp k
  rw [ho]
  show (match opnds tm as.toList with
    | some vs => vcall call f vs H
    | none => none) = _
  rw [ha]
  exact h
theorem pC_skip (h : R .normal s) : pC T call K .skip s R := ⟨_, _, rfl, h⟩
theorem pC_ret (h : R .ret s) : pC T call K .ret s R := ⟨_, _, rfl, h⟩
theorem pC_exit (h : R (.exit i) s) : pC T call K (.exit i) s R := ⟨_, _, rfl, h⟩
theorem pC_region {os : Array Oper} (h : pS T call os.toList os.toList s.tm s.H fun tm H => R .normal ⟨tm, H⟩) : pC T call K (.region i os false) s R := by
  obtain ⟨tm, H, e, q⟩ := h
  exact ⟨_, _, by rw [evC_region, e], q⟩
theorem pC_seq (h : pC T call K a s fun ex s' => match ex with
    | .normal => pC T call K b s' R
    | ex => R ex s') : pC T call K (.seq a b) s R := by
  obtain ⟨ex, s', e, q⟩ := h
  cases ex with
  | normal =>
    obtain ⟨ex2, s2, e2, q2⟩ := q
    exact ⟨ex2, s2, by rw [evC_seq, e]; exact e2, q2⟩
  | exit j => exact ⟨_, _, by rw [evC_seq, e], q⟩
  | ret => exact ⟨_, _, by rw [evC_seq, e], q⟩
theorem pC_cond {c : Operand} {x : Bool} (h : opnd s.tm c = some (.c (.b x))) (k1 : x = true → pC T call K a s R) (k2 : x = false → pC T call K b s R) : pC T call K (.cond c a b) s R := by
  cases x with
  | true =>
    obtain ⟨ex, s', e, q⟩ := k1 rfl
    exact ⟨ex, s', by rw [evC_cond, h]; exact e, q⟩
  | false =>
    obtain ⟨ex, s', e, q⟩ := k2 rfl
    exact ⟨ex, s', by rw [evC_cond, h]; exact e, q⟩
theorem pC_block (h : pC T call K a s fun ex s' => match ex with
    | .exit j => bif Nat.beq j i then R .normal s' else R (.exit j) s'
    | ex => R ex s') : pC T call K (.block i a) s R := by
  obtain ⟨ex, s', e, q⟩ := h
  cases ex with
  | normal => exact ⟨_, _, by rw [evC_block, e], q⟩
  | ret => exact ⟨_, _, by rw [evC_block, e], q⟩
  | exit j =>
    cases hj : Nat.beq j i with
    | true => simp only [hj, cond_true] at q; exact ⟨_, _, by rw [evC_block, e]; simp only [hj, cond_true], q⟩
    | false => simp only [hj, cond_false] at q; exact ⟨_, _, by rw [evC_block, e]; simp only [hj, cond_false], q⟩
/-- A loop by what holds ahead of each round: the round that is left, m more at most. -/
theorem pC_loop (I : Nat → St → Prop) {m : Nat} (hm : m < K) (h0 : I m s) (hr : ∀ j s, I j s → pC T call K a s fun ex s' => match ex with
    | .normal => ∃ j', j = j' + 1 ∧ I j' s'
    | ex => R ex s') : pC T call K (.loop a) s R := by
  have go : ∀ (k j : Nat) (s : St), j < k → I j s → ∃ ex s', iter (evC T call K a) k s = some (ex, s') ∧ R ex s' := by
    intro k
    induction k with
    | zero => intro j s hj; omega
    | succ k ih =>
      intro j s hj hI
      obtain ⟨ex, s', e, q⟩ := hr j s hI
      cases ex with
      | normal =>
        obtain ⟨j', rfl, q⟩ := q
        obtain ⟨ex2, s2, e2, q2⟩ := ih j' s' (by omega) q
        exact ⟨ex2, s2, by rw [iter_succ, e]; exact e2, q2⟩
      | exit i => exact ⟨_, _, by rw [iter_succ, e], q⟩
      | ret => exact ⟨_, _, by rw [iter_succ, e], q⟩
  exact ⟨go K m s hm h0⟩
def pI (T : Tys) (call : CallF) (K : Nat) (a : Code) (n : Nat) (s : St) (R : Ex → St → Prop) : Prop := ∃ ex s', iter (evC T call K a) n s = some (ex, s') ∧ R ex s'
theorem pC_iter (h : pI T call K a K s R) : pC T call K (.loop a) s R := ⟨h⟩
/-- One round. -/
theorem pI_round {n : Nat} (h : pC T call K a s fun ex s' => match ex with
    | .normal => pI T call K a n s' R
    | ex => R ex s') : pI T call K a (n + 1) s R := by
  obtain ⟨ex, s', e, q⟩ := h
  cases ex with
  | normal =>
    obtain ⟨ex2, s2, e2, q2⟩ := q
    exact ⟨ex2, s2, by rw [iter_succ, e]; exact e2, q2⟩
  | exit i => exact ⟨_, _, by rw [iter_succ, e], q⟩
  | ret => exact ⟨_, _, by rw [iter_succ, e], q⟩
theorem op_ixa {op : Op} {t e : TypeId} {px py : Operand} {id off n : Nat} {k : IntKind} {j : Int} {a1 a2 : Nat} {a3 : List C} {a4 : List PK} {ei : TI} (ho : op = .indexAddr t px py) (hx : opnd tm px = some (.c (.p id off))) (hy : opnd tm py = some (.c (.i k j)))
    (ht : tyAt T t = some ⟨.arr n e, a1, a2, a3, a4⟩) (he : tyAt T e = some ei) (h0 : 0 ≤ j) (hj : j < n) : evOp T call op tm H = some (.c (.p id (off + j.toNat * ei.size)), H) := by
  subst ho
  have hin : inN j n = true := by rw [inN_eq]; simp [h0, hj]
  simp only [evOp, hx, hy, vindexAddr, ht, he, hin, cond_true, Option.map_some]
theorem op_store {op : Op} {t : TypeId} {pa px : Operand} {id off m n : Nat} {x : V} {cs ys cs' : List C} {ti : TI} (ho : op = .store t pa px) (ha : opnd tm pa = some (.c (.p id off))) (hx : opnd tm px = some x) (hc : x.cells = some (n, ys)) (ht : tyAt T t = some ti) (hn : n = ti.size)
    (hb : getL H id = some (.var true m cs)) (hs : splice m cs off n ys = some cs') (hl : setL H (.var true m cs') id = some H') : evOp T call op tm H = some (.c .un, H') := by
  subst ho; subst hn
  simp only [evOp, ha, hx, vstore, hc, ht, Nat.beq_refl, cond_true, wrAt, hb, hs, hl, Option.map_some]
theorem splice_one {m off : Nat} {cs : List C} {c : C} (hm : 1 < m) (hl : cs.length = m) (ho : off < m) : splice m cs off 1 [c] = some (cs.set off c) := by
  unfold splice
  have h1 : Nat.beq 1 m = false := by rw [beq_eq]; simp; omega
  rw [h1, Bool.and_false, cond_false, spliceL_of [c] cs off (by simp; omega)]
  congr 1
  refine List.ext_getElem? fun i => ?_
  rw [List.getElem?_set]
  by_cases h : off = i
  · subst h
    rw [if_pos rfl, List.append_assoc, List.getElem?_append_right (by simp; omega)]
    simp [show min off cs.length = off by omega, show off < cs.length by omega]
  · rw [if_neg h]
    by_cases h2 : i < off
    · rw [List.append_assoc, List.getElem?_append_left (by simp; omega), List.getElem?_take_of_lt h2]
    · rw [List.getElem?_append_right (by simp; omega), List.getElem?_drop]
      congr 1
      simp
      omega
/-- A function's body. -/
theorem pF_body {f : FuncId} {fn : Func} {c : Code} {args : List V} {Q : V → Heap → Prop} (hf : fnAt F f = some fn) (hc : fn.body = some c) (h : pC T call K c ⟨appL args (List.replicate (fn.ntmps - args.length) (.c .un)), H⟩ fun ex s => (∀ i, ex ≠ .exit i) ∧ ∃ v, res T fn s = some v ∧ Q v s.H) : pF (run1 T F K call) f args H Q := by
  obtain ⟨ex, s', e, h1, v, h2, q⟩ := h
  refine ⟨v, s'.H, ?_, q⟩
  unfold run1
  simp only [hf, hc, e]
  cases ex with
  | exit i => exact absurd rfl (h1 i)
  | normal => simp [h2]
  | ret => simp [h2]
end
end
end Go.Proofs.Ytgbdjeofbeibiaa.Pe
