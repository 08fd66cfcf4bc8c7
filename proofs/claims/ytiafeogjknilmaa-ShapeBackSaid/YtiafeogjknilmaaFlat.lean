/- '==' of structs of whole numbers, as steps of a walk. -/
import Derived.Test.YtiafeogjknilmaaBase
namespace Go.Proofs.Ytiafeogjknilmaa.B
open Go.RowKit Go.BigFrame
section
variable {P : Program} {ops : Array Oper} {rest : List Oper} {o : Oper} {a : Act} {w : World} {Q : Exit → Act → World → Prop}
theorem eql_flat (t : TypeId) {t2 : TypeId} {x y : Operand} (ho : o.op = .binOp .eql t x y t2) (hgd : o.guard = none) {ks : List IntKind} (as bs : List Int) (hf : flat P 10000 t = some ks) (hT : isAggT P t = true) (hq : P.eqGuardType P.depth t = false)
    (hx : a.eval x = .agg (cellsOf' ks as).toArray) (hy : a.eval y = .agg (cellsOf' ks bs).toArray) (ha : as.length = ks.length) (hb : bs.length = ks.length) {b : Bool} (hr : (as == bs) = b) (h : wpList P ops Q rest (a.put o.dst (.bool b)) w) : wpList P ops Q (o :: rest) a w := by
  refine val_step _ ho hgd ?_ h
  simp only [execOp, ho, Sem.run_bind, hx, hy, run_eqGuard_flat hq, run_binOp_eql_flat hf hT as bs ha hb, Result.andThen_ok, Sem.run_pure, hr]
theorem neq_flat (t : TypeId) {t2 : TypeId} {x y : Operand} (ho : o.op = .binOp .neq t x y t2) (hgd : o.guard = none) {ks : List IntKind} (as bs : List Int) (hf : flat P 10000 t = some ks) (hT : isAggT P t = true) (hq : P.eqGuardType P.depth t = false)
    (hx : a.eval x = .agg (cellsOf' ks as).toArray) (hy : a.eval y = .agg (cellsOf' ks bs).toArray) (ha : as.length = ks.length) (hb : bs.length = ks.length) {b : Bool} (hr : (!(as == bs)) = b) (h : wpList P ops Q rest (a.put o.dst (.bool b)) w) : wpList P ops Q (o :: rest) a w := by
  refine val_step _ ho hgd ?_ h
  simp only [execOp, ho, Sem.run_bind, hx, hy, run_eqGuard_flat hq, run_binOp_neq_flat hf hT as bs ha hb, Result.andThen_ok, Sem.run_pure, hr]
/-- A whole variable is loaded, whatever its cells. -/
theorem ld_row (ty : TypeId) {x : Operand} (ho : o.op = .load ty x) (hgd : o.guard = none) {n : Nat} {cs : Array Value} (hsz : (P.info? ty).map (·.size) = some n) (hT : isAggT P ty = true)
    {g : Nat} {t : TypeId} {fr : Nat × Nat} (hx : a.eval x = .pointer (some ⟨g, 0, none⟩)) (hg : w.heap[g]? = some (.cells cs t fr)) (hn : cs.size = n)
    (h : wpList P ops Q rest (a.put o.dst (.agg cs)) w) : wpList P ops Q (o :: rest) a w := by
  subst hn
  cases hu : P.underlying ty with
  | none => simp [isAggT, hu] at hT
  | some d =>
    cases d with
    | struct fs => exact wpList_load_row hgd ty x ho g hx t cs fr _ hg hu rfl hsz h
    | array m e => exact wpList_load_row hgd ty x ho g hx t cs fr _ hg hu rfl hsz h
    | _ => simp [isAggT, hu] at hT
/-- A whole variable is stored, whatever its cells. -/
theorem st_row (ty : TypeId) {x y : Operand} (ho : o.op = .store ty x y) (hgd : o.guard = none) (hdst : o.dst = none) {n : Nat} {cs cs' : Array Value} (hsz : (P.info? ty).map (·.size) = some n)
    {g : Nat} {t : TypeId} (hx : a.eval x = .pointer (some ⟨g, 0, none⟩)) (hy : a.eval y = .agg cs) (hg : w.heap[g]? = some (.cells cs' t (0, 0))) (hn : cs.size = n) (hs2 : cs'.size = cs.size) (h1 : cs.all (·.oneCell') = true)
    (h : ∀ w1, w1.heap[g]? = some (.cells cs t (0, 0)) → w.grownBy w1 (some g) → wpList P ops Q rest a w1) : wpList P ops Q (o :: rest) a w := by
  subst hn
  refine wpList_store_row hgd ty x y ho g cs hx hy t cs' hg hsz hs2 h1 ?_
  rw [hdst]
  exact h _ (setRow_heap w g _ _ t _ hg) ⟨rfl, rfl, rfl, by simp, fun i hi hne => setRow_other w g i _ (fun e => hne (by rw [e]))⟩
/-- A value that is built of nothing. -/
theorem gbuild (t : TypeId) {ps : Array (Nat × Operand)} (_ho : o.op = .build t ps) (hw : Region.wanted o (yielded ops a.tmps) = true) (h : wpList P ops Q ({ o with guard := none } :: rest) a w) : wpList P ops Q (o :: rest) a w := drop_guard hw h
theorem bld0 (t : TypeId) (ho : o.op = .build t #[]) (hgd : o.guard = none) {v : Value} (hb : ∀ W, (Instr.build t #[]).run P W = .ok v W) (h : wpList P ops Q rest (a.put o.dst v) w) : wpList P ops Q (o :: rest) a w := by
  refine val_step _ ho hgd ?_ h
  simp [execOp, ho, hb]
/-- One place of an array's value. -/
theorem gindex (t : TypeId) {x y : Operand} (_ho : o.op = .index t x y) (hw : Region.wanted o (yielded ops a.tmps) = true) (h : wpList P ops Q ({ o with guard := none } :: rest) a w) : wpList P ops Q (o :: rest) a w := drop_guard hw h
theorem idx_in (t e : TypeId) {x y : Operand} (ho : o.op = .index t x y) (hgd : o.guard = none) {n : Nat} {cs : Array Value} {k q : IntKind} {i : Int} (hu : P.underlying t = some (.array n e)) (he : P.underlying e = some (.int q)) (hsz : (P.info? e).map (·.size) = some 1)
    (hx : a.eval x = .agg cs) (hy : a.eval y = .int k i) (h0 : 0 ≤ i) (h1 : i < n) {v : Value} (hv : cs[i.toNat]? = some v) (h : wpList P ops Q rest (a.put o.dst v) w) : wpList P ops Q (o :: rest) a w := by
  refine val_step _ ho hgd ?_ h
  have hs : (sizeOf e).run P w = .ok 1 w := by
    cases hi : P.info? e with
    | none => simp [hi] at hsz
    | some i =>
      have : i.size = 1 := by simpa [hi] using hsz
      simp [sizeOf, typeInfo, hi, this]
  simp [execOp, ho, hx, hy, Instr.index, run_underlying hu, asIntOf, h0, h1, hs, part, run_isAgg_int he, hv]
/-- One cell of a block is loaded, whatever stands beside it. -/
theorem ld_in (ty : TypeId) {x : Operand} (ho : o.op = .load ty x) (hgd : o.guard = none) {k' : IntKind} (hT : P.underlying ty = some (.int k')) {g i : Nat} {t : TypeId} {fr : Nat × Nat} {cs : Array Value} {v : Value}
    (hx : a.eval x = .pointer (some ⟨g, i, none⟩)) (hg : w.heap[g]? = some (.cells cs t fr)) (hi : cs.toList[i]? = some v)
    (h : wpList P ops Q rest (a.put o.dst v) w) : wpList P ops Q (o :: rest) a w := by
  refine val_step _ ho hgd ?_ h
  have hcell : w.cell? ⟨g, i, none⟩ = some v := (cell_of_row w g i _ t fr hg).trans (by rw [← Array.getElem?_toList]; exact hi)
  have hl : (loadVar ty ⟨g, i, none⟩).run P w = .ok v w := by
    simp [loadVar, run_isAgg_int hT, run_load, hcell]
  simp only [execOp, ho, hx, Instr.loadAt, Instr.sureAddr, Sem.run_bind, Sem.run_pure, Result.andThen_ok, hl]
variable {C : World → Prop} {K : Act → Prop}
theorem q_ld_row (ty : TypeId) {x : Operand} (ho : o.op = .load ty x) {n : Nat} {cs : Array Value} (hsz : (P.info? ty).map (·.size) = some n) (hT : isAggT P ty = true)
    {g : Nat} {t : TypeId} {fr : Nat × Nat} (hx : a.eval x = .pointer (some ⟨g, 0, none⟩)) (hg : ∀ w, C w → w.heap[g]? = some (.cells cs t fr)) (hn : cs.size = n)
    (h : K (a.put o.dst (.agg cs))) : o.quiet P a C K := by
  subst hn
  refine q_val (fun w hw => ?_) h
  have hl : (loadVar ty ⟨g, 0, none⟩).run P w = .ok (.agg cs) w := by
    cases hu : P.underlying ty with
    | none => simp [isAggT, hu] at hT
    | some d =>
      cases d with
      | struct fs => exact run_loadVar_row w g t ty cs fr _ (hg w hw) hu rfl hsz
      | array m e => exact run_loadVar_row w g t ty cs fr _ (hg w hw) hu rfl hsz
      | _ => simp [isAggT, hu] at hT
  simp only [execOp, ho, hx, Instr.loadAt, Instr.sureAddr, Sem.run_bind, Sem.run_pure, Result.andThen_ok, hl]
theorem q_eql_flat (t : TypeId) {t2 : TypeId} {x y : Operand} (ho : o.op = .binOp .eql t x y t2) {ks : List IntKind} (as bs : List Int) (hf : flat P 10000 t = some ks) (hT : isAggT P t = true) (hq : P.eqGuardType P.depth t = false)
    (hx : a.eval x = .agg (cellsOf' ks as).toArray) (hy : a.eval y = .agg (cellsOf' ks bs).toArray) (ha : as.length = ks.length) (hb : bs.length = ks.length) {b : Bool} (hr : (as == bs) = b) (h : K (a.put o.dst (.bool b))) : o.quiet P a C K := by
  refine q_val (fun w _ => ?_) h
  simp only [execOp, ho, Sem.run_bind, hx, hy, run_eqGuard_flat hq, run_binOp_eql_flat hf hT as bs ha hb, Result.andThen_ok, Sem.run_pure, hr]
theorem q_neq_flat (t : TypeId) {t2 : TypeId} {x y : Operand} (ho : o.op = .binOp .neq t x y t2) {ks : List IntKind} (as bs : List Int) (hf : flat P 10000 t = some ks) (hT : isAggT P t = true) (hq : P.eqGuardType P.depth t = false)
    (hx : a.eval x = .agg (cellsOf' ks as).toArray) (hy : a.eval y = .agg (cellsOf' ks bs).toArray) (ha : as.length = ks.length) (hb : bs.length = ks.length) {b : Bool} (hr : (!(as == bs)) = b) (h : K (a.put o.dst (.bool b))) : o.quiet P a C K := by
  refine q_val (fun w _ => ?_) h
  simp only [execOp, ho, Sem.run_bind, hx, hy, run_eqGuard_flat hq, run_binOp_neq_flat hf hT as bs ha hb, Result.andThen_ok, Sem.run_pure, hr]
end
theorem blk_alloc {w : World} {g : Nat} {o p : Obj} (h : w.heap[g]? = some o) : (w.alloc p).heap[g]? = some o := by
  have := (Array.getElem?_eq_some_iff.1 h).1
  have hb := (b1 w p).block g this
  rw [hb]; exact h
/-- Numbers that lie written out in a block. -/
theorem cell_lits {w : World} {g : Nat} {k : IntKind} {l : List Int} {t : TypeId} {fr : Nat × Nat} (h : w.heap[g]? = some (.cells (l.map (Value.int k)).toArray t fr)) (j : Nat) (hj : j < l.length) : w.cell? ((⟨g, 0, none⟩ : Addr).add j) = some (.int k (l.getD j 0)) := by
  rw [add_at, cell_of_row w g _ _ t fr h]
  simp [List.getD_eq_getElem?_getD, hj]
theorem lt_blk {w : World} {g : Nat} {o : Obj} (h : w.heap[g]? = some o) : g < w.heap.size := (Array.getElem?_eq_some_iff.1 h).1
theorem pblk_new {w w1 : World} {g : Nat} {o p : Obj} (h : w.heap[g]? = some o) (hg : (w.alloc p).grownBy w1 (some w.heap.size)) : w1.heap[g]? = some o :=
  pblk (blk_alloc h) hg (Nat.ne_of_lt (lt_blk h))
theorem bgrow_new {B : Nat} {w w1 w2 : World} {p : Obj} (h : Below B w w1) (hB : B ≤ w1.heap.size) (hg : (w1.alloc p).grownBy w2 (some w1.heap.size)) : Below B w w2 :=
  bgrow (h.alloc hB p) (Nat.le_trans hB (by simp)) hg hB
theorem size_grown {w1 w2 : World} {p : Obj} {r : Option Nat} (hg : (w1.alloc p).grownBy w2 r) : w1.heap.size < w2.heap.size := Nat.lt_of_lt_of_le (by simp) hg.size
/-- Results: one that lies in memory, and one beside it. -/
theorem res_ct {P : Program} {fn : Func} {p u : Tmp} {ty : TypeId} (h : fn.results = #[.cell p ty, .tmp u]) (tmps : Array Value) (w : World) {g : Nat} {t : TypeId} {cs : Array Value} {fr : Nat × Nat} {n : Nat}
    (hp : tmps.getD p undef = .pointer (some ⟨g, 0, none⟩)) (hg : w.heap[g]? = some (.cells cs t fr)) (hT : isAggT P ty = true) (hsz : (P.info? ty).map (·.size) = some n) (hn : cs.size = n) :
    (results fn tmps).run P w = .ok (.tuple #[.agg cs, tmps.getD u undef]) w := by
  subst hn
  have hp' : tmps[p]?.getD undef = .pointer (some ⟨g, 0, none⟩) := by simpa using hp
  have hl : (loadVar ty ⟨g, 0, none⟩).run P w = .ok (.agg cs) w := by
    cases hu : P.underlying ty with
    | none => simp [isAggT, hu] at hT
    | some d =>
      cases d with
      | struct fs => exact run_loadVar_row w g t ty cs fr _ hg hu rfl hsz
      | array m e => exact run_loadVar_row w g t ty cs fr _ hg hu rfl hsz
      | _ => simp [isAggT, hu] at hT
  simp [results, h, hp', asAddr, hl]
theorem ball {w w1 : World} (h : Below w.heap.size w w1) (p : Obj) : Below w.heap.size w (w1.alloc p) := h.alloc h.size _
end Go.Proofs.Ytiafeogjknilmaa.B
