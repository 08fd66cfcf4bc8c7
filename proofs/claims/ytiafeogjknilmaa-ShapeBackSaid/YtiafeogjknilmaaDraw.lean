/- Regions that draw their order, whose calls make memory, and which make a variable and store into it: way by way. -/
import Derived.Test.YtiafeogjknilmaaFlat
import Derived.OrdersHeld
namespace Go.Proofs.Ytiafeogjknilmaa.B
open Go.RowKit Go.BigFrame
section
variable {P : Program} {ops : Array Oper} {S : World → Prop} {o : Oper} {a : Act} {w : World} {Q : Exit → Act → World → Prop} {K : Act → World → Prop} {i : Nat}
theorem region_clsJ {id n : Nat} (obj : Obj) (F : Nat → Act) (hm : P.follows .mixedOrders = true) (hn : ops.size = n)
    (h1 : (∀ g w', Cls w w' → w.heap.size ≤ g → w'.heap[g]? = some obj → Q .normal (F g) w') → ∀ w1, Cls w w1 → wpAnyH P .any ops Q (Cls w) n (Array.replicate n false) a w1)
    (h2 : ∀ g w', Cls w w' → w.heap.size ≤ g → w'.heap[g]? = some obj → Q .normal (F g) w') : (Code.region id ops true).wp P Q a w := by
  subst hn
  exact wp_region_held hm (h1 h2 _ (cls_drawn w))
theorem yi_ld_arr (ty : TypeId) {x : Operand} (ho : o.op = .load ty x) (hw : Region.wanted o (yielded ops a.tmps) = true) {n : Nat} {k : IntKind} {f : Nat → Int} (hsz : (P.info? ty).map (·.size) = some n) (hT : isAggT P ty = true)
    {g : Nat} {t : TypeId} {fr : Nat × Nat} (hx : a.eval x = .pointer (some ⟨g, 0, none⟩)) (hg : ∀ w, S w → w.heap[g]? = some (.cells (arrV n k f) t fr)) : YieldsIf P ops S o (.agg (arrV n k f)) a := by
  refine .inl ⟨hw, fun w hw => ?_⟩
  have hl : (loadVar ty ⟨g, 0, none⟩).run P w = .ok (.agg (arrV n k f)) w := by
    cases hu : P.underlying ty with
    | none => simp [isAggT, hu] at hT
    | some d =>
      cases d with
      | struct fs => exact run_loadVar_row w g t ty (arrV n k f) fr _ (hg w hw) hu rfl (by rw [arrV_size]; exact hsz)
      | array m e => exact run_loadVar_row w g t ty (arrV n k f) fr _ (hg w hw) hu rfl (by rw [arrV_size]; exact hsz)
      | _ => simp [isAggT, hu] at hT
  simp only [execOp, ho, hx, Instr.loadAt, Instr.sureAddr, Sem.run_bind, Sem.run_pure, Result.andThen_ok, hl]
theorem yi_conv (s d : TypeId) {x : Operand} (ho : o.op = .convert s d x) (hw : Region.wanted o (yielded ops a.tmps) = true) {k k' : IntKind} {n m : Int} {u : TypeDesc} (hs : P.underlying s = some u) (hd : P.underlying d = some (.int k'))
    (hx : a.eval x = .int k n) (hm : k'.wrap n = m) : YieldsIf P ops S o (.int k' m) a := by
  refine .inl ⟨hw, fun w _ => ?_⟩
  subst hm
  simp [execOp, ho, hx, convert, run_underlying hs, run_underlying hd, Conv.intToInt]
theorem yi_build (t : TypeId) {ps : Array (Nat × Operand)} (ho : o.op = .build t ps) (hw : Region.wanted o (yielded ops a.tmps) = true) {vs : List (Nat × Value)} {cells : Array Value} (hv : ps.toList.map (fun p => (p.1, a.eval p.2)) = vs) (hb : P.built t vs = some cells) : YieldsIf P ops S o (.agg cells) a := by
  refine .inl ⟨hw, fun w _ => ?_⟩
  have := run_build (P := P) w t (ps.map fun (i, x) => (i, a.eval x)) cells (by rw [Array.toList_map, show ps.toList.map (fun (x : Nat × Operand) => (x.1, a.eval x.2)) = vs from hv]; exact hb)
  simp only [execOp, ho, Sem.run_bind, this, Result.andThen_ok, Sem.run_pure]
theorem wpOp_wp (hi : ops[i]? = some o) (hw : Region.wanted o (yielded ops a.tmps) = true) (h : o.wp P a w K Q) : wpOp P ops Q i K a w := by
  unfold wpOp; rw [hi]; simp only [hw, if_true]; exact .inl h
theorem wpOp_call {f : FuncId} {as : Array Operand} {ts : Array TypeId} {fn : Func} {args : Array Value} {v : Value} (hi : ops[i]? = some o) (hw : Region.wanted o (yielded ops a.tmps) = true) (ho : o.op = .call { callee := .value (.func f), args := as, argTypes := ts })
    (hf : P.funcs[f]? = some fn) (hname : (fn.name == "runtime.NumGoroutine") = false) (hb : fn.body.isSome = true) (hargs : as.map a.eval = args)
    (hc : Calls P f args w fun e w' => e = .returned v ∧ Below w.heap.size w w') (h : ∀ w', Below w.heap.size w w' → K (a.put o.dst v) w') : wpOp P ops Q i K a w := by
  refine wpOp_wp hi hw ?_
  have he : (callFunc f args).run P w = .ok (.enter f args) w := by
    have h1 : fn.name ≠ "runtime.NumGoroutine" := by simpa using hname
    obtain ⟨c, hc⟩ := Option.isSome_iff_exists.1 hb
    simp [callFunc, hf, h1, hc]
  have hrun : (execOp a.eval o).run P w = .ok (.enter f args) w := by
    unfold execOp
    simp [ho, resolve, Deferred.ofValue, invoke, Act.eval, hargs, he]
  unfold Oper.wp
  rw [hrun]
  exact hc.mono fun e w' ⟨he, hb⟩ => by subst he; exact h w' hb
theorem wpOp_alloc (ty : TypeId) {z : Array Value} (hi : ops[i]? = some o) (hw : Region.wanted o (yielded ops a.tmps) = true) (ho : o.op = .alloc ty) (hrun : ∀ W, (Instr.alloc ty true (.tuple #[])).run P W = .ok (.pointer (some ⟨W.heap.size, 0, none⟩)) (W.alloc (.cells z ty)))
    (h : ∀ g w1, g = w.heap.size → w1 = w.alloc (.cells z ty) → K (a.put o.dst (.pointer (some ⟨g, 0, none⟩))) w1) : wpOp P ops Q i K a w := by
  refine wpOp_wp hi hw ?_
  unfold Oper.wp execOp
  simp only [ho, Sem.run_bind, hrun, Result.andThen_ok, Sem.run_pure]
  exact h _ _ rfl rfl
theorem wpOp_st (ty : TypeId) {x y : Operand} {n : Nat} {cs cs' : Array Value} (hi : ops[i]? = some o) (hw : Region.wanted o (yielded ops a.tmps) = true) (ho : o.op = .store ty x y) (hdst : o.dst = none) (hsz : (P.info? ty).map (·.size) = some n)
    {g : Nat} {t : TypeId} (hx : a.eval x = .pointer (some ⟨g, 0, none⟩)) (hy : a.eval y = .agg cs) (hg : w.heap[g]? = some (.cells cs' t (0, 0))) (hn : cs.size = n) (hs2 : cs'.size = cs.size) (h1 : cs.all (·.oneCell') = true)
    (h : ∀ w1, w1.heap[g]? = some (.cells cs t (0, 0)) → w.grownBy w1 (some g) → K a w1) : wpOp P ops Q i K a w := by
  subst hn
  refine wpOp_wp hi hw ?_
  refine wp_store_row ty x y ho g cs hx hy t cs' hg hsz hs2 h1 ?_
  rw [hdst]
  exact h _ (setRow_heap w g _ _ t _ hg) ⟨rfl, rfl, rfl, by simp, fun i hi hne => setRow_other w g i _ (fun e => hne (by rw [e]))⟩
theorem q_build {C : World → Prop} {K : Act → Prop} (t : TypeId) {ps : Array (Nat × Operand)} (ho : o.op = .build t ps) {vs : List (Nat × Value)} {cells : Array Value} (hv : ps.toList.map (fun p => (p.1, a.eval p.2)) = vs) (hb : P.built t vs = some cells) (h : K (a.put o.dst (.agg cells))) : o.quiet P a C K := by
  refine q_val (fun w _ => ?_) h
  have := run_build (P := P) w t (ps.map fun (i, x) => (i, a.eval x)) cells (by rw [Array.toList_map, show ps.toList.map (fun (x : Nat × Operand) => (x.1, a.eval x.2)) = vs from hv]; exact hb)
  simp only [execOp, ho, Sem.run_bind, this, Result.andThen_ok, Sem.run_pure]
theorem q_ld_in {C : World → Prop} {K : Act → Prop} (ty : TypeId) {x : Operand} (ho : o.op = .load ty x) {k' : IntKind} (hT : P.underlying ty = some (.int k')) {g i : Nat} {t : TypeId} {fr : Nat × Nat} {cs : Array Value} {v : Value}
    (hx : a.eval x = .pointer (some ⟨g, i, none⟩)) (hg : ∀ w, C w → w.heap[g]? = some (.cells cs t fr)) (hi : cs[i]? = some v) (h : K (a.put o.dst v)) : o.quiet P a C K := by
  refine q_val (fun w hw => ?_) h
  have hcell : w.cell? ⟨g, i, none⟩ = some v := (cell_of_row w g i _ t fr (hg w hw)).trans hi
  have hl : (loadVar ty ⟨g, i, none⟩).run P w = .ok v w := by
    simp [loadVar, run_isAgg_int hT, run_load, hcell]
  simp only [execOp, ho, hx, Instr.loadAt, Instr.sureAddr, Sem.run_bind, Sem.run_pure, Result.andThen_ok, hl]
theorem cls_alloc {W w : World} (h : Cls W w) (p : Obj) : Cls W (w.alloc p) := ball h p
theorem cls_grown {W w w1 : World} {g : Nat} (h : Cls W w) (hg : w.grownBy w1 (some g)) (hge : W.heap.size ≤ g) : Cls W w1 := bgrow h h.size hg hge
end
end Go.Proofs.Ytiafeogjknilmaa.B
