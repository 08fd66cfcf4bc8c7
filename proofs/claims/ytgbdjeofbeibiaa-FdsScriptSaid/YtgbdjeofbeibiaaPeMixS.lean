/- A plain reading of the model's code: a region that draws its order, of two calls that write, step by step. -/
import Derived.Test.YtgbdjeofbeibiaaPeG
set_option linter.unusedVariables false
namespace Go.Proofs.Ytgbdjeofbeibiaa.Pe
section
variable {T : Tys} {call : CallF} {K : Nat} {ops l : List Oper} {tm tm' : List V} {H H1 : Heap} {o : Oper} {v : V}
def pQ (T : Tys) (call : CallF) (ops l : List Oper) (tm : List V) (H : Heap) (Q : List V → Prop) : Prop := ∃ tm', evQ T call ops l tm H = some tm' ∧ Q tm'
theorem pQ_nil {Q : List V → Prop} (h : Q tm) : pQ T call ops [] tm H Q := ⟨tm, rfl, h⟩
theorem pQ_op {Q : List V → Prop} (hw : wantedE ops o tm = some true) (he : evOp T call o.op tm H = some (v, H)) (hp : putT tm o.dst v = some tm') (k : pQ T call ops l tm' H Q) : pQ T call ops (o :: l) tm H Q := by
  obtain ⟨tm2, e, q⟩ := k
  refine ⟨tm2, ?_, q⟩
  unfold evQ evStep
  simp only [hw, he, if_true, hp, e]
theorem o_callV {op : Op} {f : FuncId} {as : Array Operand} {ts : Array TypeId} {vs : List V} (ho : op = .call ⟨.value (.func f), as, ts⟩) (ha : opnds tm as.toList = some vs) (h : Vc call f vs H (v, H1)) : evOp T call op tm H = some (v, H1) := by
  subst ho
  simp only [evOp, ha]
  exact h.out
theorem pC_mix {R : Ex → St → Prop} {i1 i2 i : Nat} {o1 : Oper} {A B D : List Oper} {v1 : V} {tmA tm1 : List V} (hm : mixAt ops = some (i1, i2)) (hb : mixB ops (clsOf ops []) i1 i2 = true) (ho : getL ops i1 = some o1) (hA : ops.take i1 ++ (ops.take i2).drop (i1 + 1) = A) (hB : (ops.take i2).drop (i1 + 1) = B) (hD : ops.drop i2 = D)
    (h1 : pQ T call ops A tm H fun t => t = tmA) (hw : wantedE ops o1 tmA = some true) (he : evOp T call o1.op tmA H = some (v1, H1)) (hp : putT tmA o1.dst v1 = some tm1) (h2 : pQ T call ops B tm1 H1 fun t => t = tm1) (h3 : pS T call ops D tm1 H1 fun tm H => R .normal ⟨tm, H⟩) : pC T call K (.region i (List.toArray ops) true) ⟨tm, H⟩ R := by
  subst hA hB hD
  obtain ⟨t1, e1, rfl⟩ := h1
  obtain ⟨t2, e2, rfl⟩ := h2
  obtain ⟨tm3, H3, e3, q⟩ := h3
  refine ⟨_, _, ?_, q⟩
  show (match evDrawM T call ops tm H with
      | some (tm, H) => some (Ex.normal, (⟨tm, H⟩ : St))
      | none => none) = _
  unfold evDrawM
  rw [hm]
  simp only [evMix, hb, cond_true, ho, e1]
  have hs : evStep T call ops o1 t1 H = some (v1, H1) := by
    unfold evStep
    simp only [hw, he]
  simp only [hs, hp, e2, if_true, e3]
/-- .. the first call, and what is behind it, in turn. -/
theorem pC_mx {R : Ex → St → Prop} {i1 i2 i : Nat} {o1 : Oper} {A B D : List Oper} (hm : mixAt ops = some (i1, i2)) (hb : mixB ops (clsOf ops []) i1 i2 = true) (ho : getL ops i1 = some o1) (hA : ops.take i1 ++ (ops.take i2).drop (i1 + 1) = A) (hB : (ops.take i2).drop (i1 + 1) = B) (hD : ops.drop i2 = D)
    (h : pQ T call ops A tm H fun tmA => ∃ v1 H1 tm1, wantedE ops o1 tmA = some true ∧ evOp T call o1.op tmA H = some (v1, H1) ∧ putT tmA o1.dst v1 = some tm1 ∧ pQ T call ops B tm1 H1 (fun t => t = tm1) ∧ pS T call ops D tm1 H1 fun tm H => R .normal ⟨tm, H⟩) : pC T call K (.region i (List.toArray ops) true) ⟨tm, H⟩ R := by
  obtain ⟨tmA, e, v1, H1, tm1, hw, he, hp, h2, h3⟩ := h
  exact pC_mix hm hb ho hA hB hD ⟨tmA, e, rfl⟩ hw he hp h2 h3
end
end Go.Proofs.Ytgbdjeofbeibiaa.Pe
