/- A plain reading of the model's code: the operations that leave memory alone. -/
import Derived.Test.YtbfepedjnlcgkaaPeEq
import Derived.Lib.Strings
set_option linter.unusedVariables false
namespace Go.Proofs.Ytbfepedjnlcgkaa.Pe
open Go.Proofs.Ytbfepedjnlcgkaa.B (run_isAgg_int run_isAgg_arr run_isAgg_struct isAggT isAggT_arr isAggT_struct isAggT_int valT run_eqGuard_flat)
def kdOk (P : Program) (t : TypeId) : TK → Prop
  | .int k => P.underlying t = some (.int k)
  | .bool => P.underlying t = some .bool
  | .str => P.underlying t = some .string
  | .ptr => ∃ e, P.underlying t = some (.pointer e)
  | .sl e => P.underlying t = some (.slice e)
  | .arr n e => P.underlying t = some (.array n e)
  | .st fs => ∃ F : Array Field, P.underlying t = some (.struct F) ∧ F.toList.map (fun f => (f.offset, f.type)) = fs ∧ ∀ f ∈ F.toList, (P.info? f.type).isSome = true
  | .mp k e => P.underlying t = some (.map k e)
  | .oth => False
structure TyOk (P : Program) (t : TypeId) (ti : TI) : Prop where
  kd : kdOk P t ti.kd
  info : ∃ i z, P.info? t = some i ∧ i.size = ti.size ∧ i.bytes = ti.bytes ∧ i.zero = some z ∧ cellsOf z.cells.toList = some ti.zero ∧ ti.zero.length = ti.size
  ks : ti.ks ≠ [] → flat P 10000 t = some ti.ks ∧ P.eqGuardType P.depth t = false
abbrev TabOk (P : Program) (T : Tys) : Prop := ∀ t ti, tyAt T t = some ti → TyOk P t ti
section
variable {P : Program} {T : Tys} {t : TypeId} {ti : TI} {ρ : Ren} {H : Heap} {w : World} {a : Act}
theorem TyOk.isAgg (h : TyOk P t ti) (w : World) : (Go.isAgg t).run P w = .ok ti.agg w := by
  have h := h.kd
  cases hk : ti.kd <;> rw [hk] at h <;> simp only [kdOk] at h <;> simp only [TI.agg, hk]
  case int => simp [Go.isAgg, run_underlying h]
  case bool => simp [Go.isAgg, run_underlying h]
  case str => simp [Go.isAgg, run_underlying h]
  case ptr => obtain ⟨e, h⟩ := h; simp [Go.isAgg, run_underlying h]
  case sl => simp [Go.isAgg, run_underlying h]
  case arr => simp [Go.isAgg, run_underlying h]
  case st => obtain ⟨F, h, _⟩ := h; simp [Go.isAgg, run_underlying h]
  case mp => simp [Go.isAgg, run_underlying h]
theorem TyOk.aggT (h : TyOk P t ti) (ha : ti.agg = true) : isAggT P t = true := by
  have h := h.kd
  cases hk : ti.kd <;> rw [hk] at h <;> simp only [kdOk] at h <;> simp [TI.agg, hk] at ha
  case arr => exact isAggT_arr h
  case st => obtain ⟨F, h, _⟩ := h; exact isAggT_struct h
theorem TyOk.size (h : TyOk P t ti) (w : World) : (sizeOf t).run P w = .ok ti.size w := by
  obtain ⟨i, z, h1, h2, h3, _⟩ := h.info
  simp [sizeOf, typeInfo, h1, h2]
theorem TyOk.tinfo (h : TyOk P t ti) (w : World) : ∃ i, (typeInfo t).run P w = .ok i w ∧ i.size = ti.size ∧ i.bytes = ti.bytes := by
  obtain ⟨i, z, h1, h2, h3, _⟩ := h.info
  exact ⟨i, by simp [typeInfo, h1], h2, h3⟩
/-! constants and operands -/
theorem cellOf_rel {v : Value} {c : C} (h : cellOf v = some c) : Cel ρ H c v := by
  unfold cellOf at h
  split at h <;> cases h <;> refine ⟨by simp, ?_⟩ <;> first | rfl | skip
theorem cellsOf_rel : ∀ {vs : List Value} {cs : List C}, cellsOf vs = some cs → Cels ρ H cs vs
  | [], cs, h => by cases h; exact All2.nil
  | v :: vs, cs, h => by
    simp only [cellsOf] at h
    split at h
    · rename_i c cs' h1 h2
      cases h
      exact All2.cons (cellOf_rel h1) (cellsOf_rel h2)
    · cases h
theorem valOf_rel {v : Value} {x : V} (h : valOf v = some x) : VRel ρ H x v := by
  unfold valOf at h
  split at h
  · rename_i cs
    simp only [Option.map_eq_some_iff] at h
    obtain ⟨xs, h1, rfl⟩ := h
    have := cellsOf_rel (ρ := ρ) (H := H) h1
    exact ⟨cs, rfl, this.1.trans (by simp), this⟩
  · simp only [Option.map_eq_some_iff] at h
    obtain ⟨c, h1, rfl⟩ := h
    exact (cellOf_rel h1).2
structure TRel (ρ : Ren) (H : Heap) (tm : List V) (tmps : Array Value) : Prop where
  len : tm.length = tmps.size
  val : ∀ t x, tm[t]? = some x → VRel ρ H x (tmps.getD t undef)
theorem opnd_rel {tm : List V} {x : Operand} {v : V} (ht : TRel ρ H tm a.tmps) (h : opnd tm x = some v) : VRel ρ H v (a.eval x) := by
  cases x with
  | tmp t => exact ht.val t v (by rw [← getL_eq]; exact h)
  | const v => exact valOf_rel h
  | global g => cases h
  | func f => cases h
theorem opnds_rel {tm : List V} (ht : TRel ρ H tm a.tmps) : ∀ {l : List Operand} {vs : List V}, opnds tm l = some vs → All2 (VRel ρ H) vs (l.map a.eval)
  | [], vs, h => by cases h; exact All2.nil
  | x :: l, vs, h => by
    have h2 : (match opnd tm x, opnds tm l with
      | some v, some vs => some (v :: vs)
      | _, _ => none) = some vs := h
    split at h2
    · rename_i v vs' h3 h4
      cases h2
      exact All2.cons (opnd_rel ht h3) (opnds_rel ht h4)
    · cases h2
theorem parts_rel {tm : List V} (ht : TRel ρ H tm a.tmps) : ∀ {l : List (Nat × Operand)} {vs : List (Nat × V)}, parts tm l = some vs → All2 (fun (x : Nat × V) (y : Nat × Value) => x.1 = y.1 ∧ VRel ρ H x.2 y.2) vs (l.map fun p => (p.1, a.eval p.2))
  | [], vs, h => by cases h; exact All2.nil
  | x :: l, vs, h => by
    have h2 : (match opnd tm x.2, parts tm l with
      | some v, some vs => some ((x.1, v) :: vs)
      | _, _ => none) = some vs := h
    split at h2
    · rename_i v vs' h3 h4
      cases h2
      exact All2.cons ⟨rfl, opnd_rel ht h3⟩ (parts_rel ht h4)
    · cases h2
theorem cells_c {c : C} {n : Nat} {ys : List C} (h : (V.c c).cells = some (n, ys)) : c ≠ .un ∧ n = 1 ∧ ys = [c] := by
  cases c <;> simp only [V.cells, Option.some.injEq, Prod.mk.injEq, reduceCtorEq] at h <;> exact ⟨by simp, h.1.symm, h.2.symm⟩
theorem one_cells {v : Value} (h : v.oneCell' = true) : v.cells = #[v] := by cases v <;> simp_all [Value.cells, Value.oneCell']
theorem cells_rel {x : V} {v : Value} {n : Nat} {ys : List C} (h : x.cells = some (n, ys)) (hv : VRel ρ H x v) : ys.length = n ∧ Cels ρ H ys v.cells.toList := by
  cases x with
  | c c =>
    obtain ⟨h0, rfl, rfl⟩ := cells_c h
    have h1 : Cel ρ H c v := ⟨h0, hv⟩
    rw [one_cells h1.one]
    exact ⟨rfl, All2.cons h1 All2.nil⟩
  | ag m xs =>
    simp only [V.cells, Option.some.injEq, Prod.mk.injEq] at h
    obtain ⟨rfl, rfl⟩ := h
    obtain ⟨vs, rfl, h1, h2⟩ := hv
    exact ⟨h1, h2⟩
  | t xs => cases h
/-! numbers, bools, strings -/
theorem run_equalIn_bool (hu : P.underlying t = some .bool) (d : Nat) (x y : Bool) (w : World) : (Op.equalIn (d + 1) t (.bool x) (.bool y)).run P w = .ok (x == y) w := by simp [Op.equalIn, run_underlying hu]
theorem run_equal_bool (hu : P.underlying t = some .bool) (x y : Bool) (w : World) : (Op.equal t (.bool x) (.bool y)).run P w = .ok (x == y) w := run_equalIn_bool hu 9999 x y w
theorem vbin_rel {op : BinOp} {x y z : V} {u v : Value} {ox oy : Operand} (hT : TabOk P T) (h : vbin T op t x y = some z) (hx : VRel ρ H x u) (hy : VRel ρ H y v) :
    ∃ r, (do eqGuard op t ox oy u v; binOp op t u v : Sem Value).run P w = .ok r w ∧ VRel ρ H z r := by
  unfold vbin at h
  split at h
  · rename_i k m k' n
    simp only [VRel, CRel] at hx hy
    subst hx; subst hy
    have hg : (eqGuard op t ox oy (.int k m) (.int k' n)).run P w = .ok () w := by cases op <;> simp [eqGuard]
    simp only [Sem.run_bind, hg, Result.andThen_ok]
    split at h
    · simp only [Option.map_eq_some_iff] at h
      obtain ⟨c, h1, rfl⟩ := h
      unfold cshift at h1
      split at h1
      · cases h1
      · rename_i hb
        simp only [Option.some.injEq] at h1
        subst h1
        refine ⟨_, ?_, rfl⟩
        simp [binOp, Op.shift, hb, wrapQ_eq]
    · simp only [Option.map_eq_some_iff] at h
      obtain ⟨c, h1, rfl⟩ := h
      unfold cshift at h1
      split at h1
      · cases h1
      · rename_i hb
        simp only [Option.some.injEq] at h1
        subst h1
        refine ⟨_, ?_, rfl⟩
        simp [binOp, Op.shift, hb]
    · split at h
      · rename_i hk
        subst hk
        simp only [Option.map_eq_some_iff] at h
        obtain ⟨c, h1, rfl⟩ := h
        cases op <;> simp only [cint, Option.some.injEq, reduceCtorEq, Option.ite_none_left_eq_some] at h1 <;>
          first
          | (subst h1
             refine ⟨_, ?_, rfl⟩
             simp [binOp, Op.intArith, Op.intBits, Op.intCmp, wrapQ_eq, eqI_eq, leI_eq, bne] <;> (rw [Bool.eq_iff_iff]; simp; try omega))
          | (obtain ⟨h0, h1⟩ := h1
             subst h1
             refine ⟨_, ?_, rfl⟩
             simp [binOp, Op.intDiv, h0, wrapQ_eq])
          | (exact absurd rfl ‹_›)
      · cases h
  · rename_i l1 l2
    simp only [VRel, CRel] at hx hy
    subst hx; subst hy
    simp only [Option.map_eq_some_iff] at h
    obtain ⟨c, h1, rfl⟩ := h
    have hg : (eqGuard op t ox oy (.string ⟨l1.toArray⟩) (.string ⟨l2.toArray⟩)).run P w = .ok () w := by cases op <;> simp [eqGuard]
    simp only [Sem.run_bind, hg, Result.andThen_ok]
    cases op <;> simp only [cstr, Option.some.injEq, reduceCtorEq, Option.ite_none_left_eq_some] at h1
    case add =>
      obtain ⟨h0, rfl⟩ := h1
      refine ⟨.string ⟨(l1 ++ l2).toArray⟩, ?_, rfl⟩
      have e : ((⟨l1.toArray⟩ : ByteArray) ++ ⟨l2.toArray⟩) = ⟨(l1 ++ l2).toArray⟩ := by
        apply ByteArray.ext
        simp
      have h2 : ¬ ((((⟨l1.toArray⟩ : ByteArray).size + (⟨l2.toArray⟩ : ByteArray).size : Nat) : Int) > IntKind.i64.max) := h0
      simp only [binOp, Op.stringOp, if_neg h2, e, Sem.run_pure]
    case eql =>
      subst h1
      refine ⟨_, ?_, rfl⟩
      simp [binOp, Op.stringOp, Lib.toList_data]
    case neq =>
      subst h1
      refine ⟨_, ?_, rfl⟩
      simp [binOp, Op.stringOp, Lib.toList_data]
  · rename_i b1 b2
    simp only [VRel, CRel] at hx hy
    subst hx; subst hy
    split at h
    · rename_i ti hti
      cases h
      have hu := (hT _ _ hti).kd
      simp only [kdOk] at hu
      refine ⟨.bool (b1 == b2), ?_, rfl⟩
      have hg : ∀ op, (eqGuard op t ox oy (.bool b1) (.bool b2)).run P w = .ok () w := fun op => by cases op <;> simp [eqGuard]
      simp only [Sem.run_bind, hg, Result.andThen_ok, binOp, run_equal_bool hu, Sem.run_pure]
    · rename_i ti hti
      cases h
      have hu := (hT _ _ hti).kd
      simp only [kdOk] at hu
      refine ⟨.bool (!(b1 == b2)), ?_, rfl⟩
      have hg : ∀ op, (eqGuard op t ox oy (.bool b1) (.bool b2)).run P w = .ok () w := fun op => by cases op <;> simp [eqGuard]
      simp only [Sem.run_bind, hg, Result.andThen_ok, binOp, run_equal_bool hu, Sem.run_pure]
    · cases h
  · rename_i n1 as n2 bs
    obtain ⟨us, rfl, _, hx⟩ := hx
    obtain ⟨vs, rfl, _, hy⟩ := hy
    split at h
    · rename_i ti hti
      cases hc : (ti.agg && !ti.ks.isEmpty && kinds as ti.ks && kinds bs ti.ks) with
      | false => simp [hc] at h
      | true =>
        simp only [hc, cond_true] at h
        simp only [Bool.and_eq_true, Bool.not_eq_true', List.isEmpty_eq_false_iff] at hc
        obtain ⟨⟨⟨ha, hne⟩, h1⟩, h2⟩ := hc
        have ht := hT _ _ hti
        obtain ⟨hf, hgd⟩ := ht.ks hne
        have hg := run_eqGuard_flat hgd op ox oy us vs w
        have he := run_equalIn_flat (P := P) 10000 t ti.ks us.toList vs.toList w hf (kinds_knd hx h1) (kinds_knd hy h2)
        rw [valT, valT, ht.aggT ha, if_pos rfl, if_pos rfl] at he
        simp only [Array.toArray_toList] at he
        rw [← ceqs_veqs hx hy h1 h2] at he
        simp only [Sem.run_bind, hg, Result.andThen_ok]
        split at h
        · cases h
          exact ⟨_, by simp only [binOp, Op.equal, Op.maxDepth, Sem.run_bind, he, Result.andThen_ok, Sem.run_pure], rfl⟩
        · cases h
          exact ⟨_, by simp only [binOp, Op.equal, Op.maxDepth, Sem.run_bind, he, Result.andThen_ok, Sem.run_pure], rfl⟩
        · cases h
    · cases h
  · cases h
theorem vun_rel {op : UnOp} {x z : V} {u : Value} (h : vun op x = some z) (hx : VRel ρ H x u) : ∃ r, (Op.unary op u).run P w = .ok r w ∧ VRel ρ H z r := by
  unfold vun at h
  split at h
  · cases h
    simp only [VRel, CRel] at hx
    subst hx
    exact ⟨_, by simp [Op.unary, Op.intArith, wrapQ_eq], rfl⟩
  · cases h
    simp only [VRel, CRel] at hx
    subst hx
    exact ⟨_, by simp [Op.unary], rfl⟩
  · cases h
theorem min2_rel {mx : Bool} {x y z : V} {u v : Value} (h : min2C mx x y = some z) (hx : VRel ρ H x u) (hy : VRel ρ H y v) :
    ∃ r, (if mx then Builtin.max2 u v else Builtin.min2 u v).run P w = .ok r w ∧ VRel ρ H z r := by
  unfold min2C at h
  split at h
  · rename_i k m k' n
    simp only [VRel, CRel] at hx hy
    subst hx; subst hy
    cases hk : Nat.beq k.ctorIdx k'.ctorIdx with
    | false => simp [hk] at h
    | true =>
      simp only [hk, cond_true, Option.some.injEq] at h
      subst h
      cases mx
      · refine ⟨_, by simp [Builtin.min2]; rfl, ?_⟩
        simp only [VRel, CRel, cond_false, leI_eq]
        by_cases h : m ≤ n
        · have h2 : ¬ n < m := by omega
          simp [h, h2]
        · have h2 : n < m := by omega
          simp [h, h2]
      · refine ⟨_, by simp [Builtin.max2]; rfl, ?_⟩
        simp only [VRel, CRel, cond_true, leI_eq]
        by_cases h : n ≤ m
        · have h2 : ¬ m < n := by omega
          simp [h, h2]
        · have h2 : m < n := by omega
          simp [h, h2]
  · cases h
theorem minC_rel (mx : Bool) : ∀ {r : List V} {vs : List Value} {x z : V} {u : Value}, minC mx r x = some z → VRel ρ H x u → All2 (VRel ρ H) r vs →
    ∃ q, (vs.foldlM (if mx then Builtin.max2 else Builtin.min2) u).run P w = .ok q w ∧ VRel ρ H z q
  | [], vs, x, z, u, h, hx, hr => by
    cases h
    obtain rfl : vs = [] := List.eq_nil_of_length_eq_zero hr.1.symm
    exact ⟨u, by simp, hx⟩
  | y :: r, [], x, z, u, h, hx, hr => by have := hr.1; simp at this
  | y :: r, v :: vs, x, z, u, h, hx, hr => by
    have h2 : (match min2C mx x y with
      | some z => minC mx r z
      | none => none) = some z := h
    cases hm : min2C mx x y with
    | none => simp [hm] at h2
    | some x' =>
      simp only [hm] at h2
      obtain ⟨q, h3, h4⟩ := min2_rel (P := P) (w := w) hm hx (hr.2 0 _ _ rfl rfl)
      obtain ⟨q2, h5, h6⟩ := minC_rel mx h2 h4 (vs := vs) ⟨by simpa using hr.1, fun i x y a b => hr.2 (i + 1) x y (by simpa using a) (by simpa using b)⟩
      refine ⟨q2, ?_, h6⟩
      have h3' : ((if mx then Builtin.max2 else Builtin.min2) u v).run P w = .ok q w := by cases mx <;> simpa using h3
      simp only [List.foldlM_cons, Sem.run_bind, h3', Result.andThen_ok, h5]
end
end Go.Proofs.Ytbfepedjnlcgkaa.Pe
