/- A plain reading of the model's code: the operations that leave memory alone. A plain reading of the model's code: what is read of memory, places, and values built. A plain reading of the model's code: slices of slices, lengths, values built. A plain reading of the model's code: what makes memory, and what writes it. A plain reading of the model's code: stores, appends, copies. A plain reading of the model's code: appends, copies, conversions. A plain reading of the model's code: copies and conversions. -/
import Derived.Test.YtgfeohklkinccaaPeEq
import Derived.Lib.Strings
import Derived.MapKept
import Derived.Laws.CopyRow
import Derived.Laws.MakeOwn
import Derived.Great.BuildSlice
import Derived.Laws.IdiomStrings
import Derived.Laws.BytesArg
set_option linter.unusedVariables false
namespace Go.Proofs.Ytgfeohklkinccaa.Pe
open Go.Proofs.Ytgfeohklkinccaa.B (run_isAgg_int run_isAgg_arr run_isAgg_struct isAggT isAggT_arr isAggT_struct isAggT_int valT run_eqGuard_flat)
def kdOk (P : Program) (t : TypeId) : TK → Prop
  | .int k => P.underlying t = some (.int k)
  | .bool => P.underlying t = some .bool
  | .str => P.underlying t = some .string
  | .ptr => ∃ e, P.underlying t = some (.pointer e)
  | .sl e => P.underlying t = some (.slice e)
  | .arr n e => P.underlying t = some (.array n e)
  | .st fs => ∃ F : Array Field, P.underlying t = some (.struct F) ∧ F.toList.map (fun f => (f.offset, f.type)) = fs ∧ ∀ f ∈ F.toList, (P.info? f.type).isSome = true
  | .mp k e => P.underlying t = some (.map k e)
  | .oth => ∃ p r b, P.underlying t = some (.func p r b)
structure TyOk (P : Program) (t : TypeId) (ti : TI) : Prop where
  kd : kdOk P t ti.kd
  info : ∃ i z, P.info? t = some i ∧ i.size = ti.size ∧ i.bytes = ti.bytes ∧ i.zero = some z ∧ cellsOf z.cells.toList = some ti.zero ∧ ti.zero.length = ti.size
  ks : ti.ks ≠ [] → flat P 10000 t = some ti.ks ∧ P.eqGuardType P.depth t = false
abbrev TabOk (P : Program) (T : Tys) : Prop := ∀ t ti, tyAt T t = some ti → TyOk P t ti
section
variable {P : Program} {T : Tys} {t : TypeId} {ti : TI} {ρ : Ren} {H : Heap} {w : World} {a : Act}
theorem TyOk.isAgg (h : TyOk P t ti) (w : World) : (Go.isAgg t).run P w = .ok ti.agg w := by
  have h := h.kd
  cases hk : ti.kd <;> rw [hk] at h <;> simp only [kdOk] at h <;> simp only [TI.agg, hk]
  case int => simp [Go.isAgg, run_underlying h]
  case bool => simp [Go.isAgg, run_underlying h]
  case str => simp [Go.isAgg, run_underlying h]
  case ptr => obtain ⟨e, h⟩ := h; simp [Go.isAgg, run_underlying h]
  case sl => simp [Go.isAgg, run_underlying h]
  case arr => simp [Go.isAgg, run_underlying h]
  case st => obtain ⟨F, h, _⟩ := h; simp [Go.isAgg, run_underlying h]
  case mp => simp [Go.isAgg, run_underlying h]
  case oth => obtain ⟨p, r, b, h⟩ := h; simp [Go.isAgg, run_underlying h]
theorem TyOk.aggT (h : TyOk P t ti) (ha : ti.agg = true) : isAggT P t = true := by
  have h := h.kd
  cases hk : ti.kd <;> rw [hk] at h <;> simp only [kdOk] at h <;> simp [TI.agg, hk] at ha
  case arr => exact isAggT_arr h
  case st => obtain ⟨F, h, _⟩ := h; exact isAggT_struct h
theorem TyOk.size (h : TyOk P t ti) (w : World) : (sizeOf t).run P w = .ok ti.size w := by
  obtain ⟨i, z, h1, h2, h3, _⟩ := h.info
  simp [sizeOf, typeInfo, h1, h2]
theorem TyOk.tinfo (h : TyOk P t ti) (w : World) : ∃ i, (typeInfo t).run P w = .ok i w ∧ i.size = ti.size ∧ i.bytes = ti.bytes := by
  obtain ⟨i, z, h1, h2, h3, _⟩ := h.info
  exact ⟨i, by simp [typeInfo, h1], h2, h3⟩
/-! constants and operands -/
theorem cellOf_rel {v : Value} {c : C} (h : cellOf v = some c) : Cel ρ H c v := by
  unfold cellOf at h
  split at h <;> cases h <;> refine ⟨by simp, ?_⟩ <;> first | rfl | skip
theorem cellsOf_rel : ∀ {vs : List Value} {cs : List C}, cellsOf vs = some cs → Cels ρ H cs vs
  | [], cs, h => by cases h; exact All2.nil
  | v :: vs, cs, h => by
    simp only [cellsOf] at h
    split at h
    · rename_i c cs' h1 h2
      cases h
      exact All2.cons (cellOf_rel h1) (cellsOf_rel h2)
    · cases h
theorem valOf_rel {v : Value} {x : V} (h : valOf v = some x) : VRel ρ H x v := by
  unfold valOf at h
  split at h
  · rename_i cs
    simp only [Option.map_eq_some_iff] at h
    obtain ⟨xs, h1, rfl⟩ := h
    have := cellsOf_rel (ρ := ρ) (H := H) h1
    exact ⟨cs, rfl, this.1.trans (by simp), this⟩
  · simp only [Option.map_eq_some_iff] at h
    obtain ⟨c, h1, rfl⟩ := h
    exact (cellOf_rel h1).2
structure TRel (ρ : Ren) (H : Heap) (tm : List V) (tmps : Array Value) : Prop where
  len : tm.length = tmps.size
  val : ∀ t x, tm[t]? = some x → VRel ρ H x (tmps.getD t undef)
theorem opnd_rel {tm : List V} {x : Operand} {v : V} (ht : TRel ρ H tm a.tmps) (h : opnd tm x = some v) : VRel ρ H v (a.eval x) := by
  cases x with
  | tmp t => exact ht.val t v (by rw [← getL_eq]; exact h)
  | const v => exact valOf_rel h
  | global g => cases h
  | func f => cases h
theorem opnds_rel {tm : List V} (ht : TRel ρ H tm a.tmps) : ∀ {l : List Operand} {vs : List V}, opnds tm l = some vs → All2 (VRel ρ H) vs (l.map a.eval)
  | [], vs, h => by cases h; exact All2.nil
  | x :: l, vs, h => by
    have h2 : (match opnd tm x, opnds tm l with
      | some v, some vs => some (v :: vs)
      | _, _ => none) = some vs := h
    split at h2
    · rename_i v vs' h3 h4
      cases h2
      exact All2.cons (opnd_rel ht h3) (opnds_rel ht h4)
    · cases h2
theorem parts_rel {tm : List V} (ht : TRel ρ H tm a.tmps) : ∀ {l : List (Nat × Operand)} {vs : List (Nat × V)}, parts tm l = some vs → All2 (fun (x : Nat × V) (y : Nat × Value) => x.1 = y.1 ∧ VRel ρ H x.2 y.2) vs (l.map fun p => (p.1, a.eval p.2))
  | [], vs, h => by cases h; exact All2.nil
  | x :: l, vs, h => by
    have h2 : (match opnd tm x.2, parts tm l with
      | some v, some vs => some ((x.1, v) :: vs)
      | _, _ => none) = some vs := h
    split at h2
    · rename_i v vs' h3 h4
      cases h2
      exact All2.cons ⟨rfl, opnd_rel ht h3⟩ (parts_rel ht h4)
    · cases h2
theorem cells_c {c : C} {n : Nat} {ys : List C} (h : (V.c c).cells = some (n, ys)) : c ≠ .un ∧ n = 1 ∧ ys = [c] := by
  cases c <;> simp only [V.cells, Option.some.injEq, Prod.mk.injEq, reduceCtorEq] at h <;> exact ⟨by simp, h.1.symm, h.2.symm⟩
theorem one_cells {v : Value} (h : v.oneCell' = true) : v.cells = #[v] := by cases v <;> simp_all [Value.cells, Value.oneCell']
theorem cells_rel {x : V} {v : Value} {n : Nat} {ys : List C} (h : x.cells = some (n, ys)) (hv : VRel ρ H x v) : ys.length = n ∧ Cels ρ H ys v.cells.toList := by
  cases x with
  | c c =>
    obtain ⟨h0, rfl, rfl⟩ := cells_c h
    have h1 : Cel ρ H c v := ⟨h0, hv⟩
    rw [one_cells h1.one]
    exact ⟨rfl, All2.cons h1 All2.nil⟩
  | ag m xs =>
    simp only [V.cells, Option.some.injEq, Prod.mk.injEq] at h
    obtain ⟨rfl, rfl⟩ := h
    obtain ⟨vs, rfl, h1, h2⟩ := hv
    exact ⟨h1, h2⟩
  | t xs => cases h
/-! numbers, bools, strings -/
theorem run_equalIn_bool (hu : P.underlying t = some .bool) (d : Nat) (x y : Bool) (w : World) : (Op.equalIn (d + 1) t (.bool x) (.bool y)).run P w = .ok (x == y) w := by simp [Op.equalIn, run_underlying hu]
theorem run_equal_bool (hu : P.underlying t = some .bool) (x y : Bool) (w : World) : (Op.equal t (.bool x) (.bool y)).run P w = .ok (x == y) w := run_equalIn_bool hu 9999 x y w
theorem run_equalIn_np1 {e : TypeId} (hu : P.underlying t = some (.pointer e)) (d : Nat) (w : World) : (Op.equalIn (d + 1) t (.pointer none) (.pointer none)).run P w = .ok true w := by simp [Op.equalIn, run_underlying hu]
theorem run_equalIn_np2 {e : TypeId} (hu : P.underlying t = some (.pointer e)) (d : Nat) (a : Addr) (w : World) : (Op.equalIn (d + 1) t (.pointer (some a)) (.pointer none)).run P w = .ok false w := by simp [Op.equalIn, run_underlying hu]
theorem run_equal_np1 {e : TypeId} (hu : P.underlying t = some (.pointer e)) (w : World) : (Op.equal t (.pointer none) (.pointer none)).run P w = .ok true w := run_equalIn_np1 hu 9999 w
theorem run_equal_np2 {e : TypeId} (hu : P.underlying t = some (.pointer e)) (a : Addr) (w : World) : (Op.equal t (.pointer (some a)) (.pointer none)).run P w = .ok false w := run_equalIn_np2 hu 9999 a w
theorem vbin_rel {op : BinOp} {x y z : V} {u v : Value} {ox oy : Operand} (hT : TabOk P T) (h : vbin T op t x y = some z) (hx : VRel ρ H x u) (hy : VRel ρ H y v) :
    ∃ r, (do eqGuard op t ox oy u v; binOp op t u v : Sem Value).run P w = .ok r w ∧ VRel ρ H z r := by
  unfold vbin at h
  split at h
  · rename_i k m k' n
    simp only [VRel, CRel] at hx hy
    subst hx; subst hy
    have hg : (eqGuard op t ox oy (.int k m) (.int k' n)).run P w = .ok () w := by cases op <;> simp [eqGuard]
    simp only [Sem.run_bind, hg, Result.andThen_ok]
    split at h
    · simp only [Option.map_eq_some_iff] at h
      obtain ⟨c, h1, rfl⟩ := h
      unfold cshift at h1
      split at h1
      · cases h1
      · rename_i hb
        simp only [Option.some.injEq] at h1
        subst h1
        refine ⟨_, ?_, rfl⟩
        simp [binOp, Op.shift, hb, wrapQ_eq]
    · simp only [Option.map_eq_some_iff] at h
      obtain ⟨c, h1, rfl⟩ := h
      unfold cshift at h1
      split at h1
      · cases h1
      · rename_i hb
        simp only [Option.some.injEq] at h1
        subst h1
        refine ⟨_, ?_, rfl⟩
        simp [binOp, Op.shift, hb]
    · split at h
      · rename_i hk
        subst hk
        simp only [Option.map_eq_some_iff] at h
        obtain ⟨c, h1, rfl⟩ := h
        cases op <;> simp only [cint, Option.some.injEq, reduceCtorEq, Option.ite_none_left_eq_some] at h1 <;>
          first
          | (subst h1
             refine ⟨_, ?_, rfl⟩
             simp [binOp, Op.intArith, Op.intBits, Op.intCmp, wrapQ_eq, eqI_eq, leI_eq, bne] <;> (rw [Bool.eq_iff_iff]; simp; try omega))
          | (obtain ⟨h0, h1⟩ := h1
             subst h1
             refine ⟨_, ?_, rfl⟩
             simp [binOp, Op.intDiv, h0, wrapQ_eq])
          | (exact absurd rfl ‹_›)
      · cases h
  · rename_i l1 l2
    simp only [VRel, CRel] at hx hy
    subst hx; subst hy
    simp only [Option.map_eq_some_iff] at h
    obtain ⟨c, h1, rfl⟩ := h
    have hg : (eqGuard op t ox oy (.string ⟨l1.toArray⟩) (.string ⟨l2.toArray⟩)).run P w = .ok () w := by cases op <;> simp [eqGuard]
    simp only [Sem.run_bind, hg, Result.andThen_ok]
    cases op <;> simp only [cstr, Option.some.injEq, reduceCtorEq, Option.ite_none_left_eq_some] at h1
    case add =>
      obtain ⟨h0, rfl⟩ := h1
      refine ⟨.string ⟨(l1 ++ l2).toArray⟩, ?_, rfl⟩
      have e : ((⟨l1.toArray⟩ : ByteArray) ++ ⟨l2.toArray⟩) = ⟨(l1 ++ l2).toArray⟩ := by
        apply ByteArray.ext
        simp
      have h2 : ¬ ((((⟨l1.toArray⟩ : ByteArray).size + (⟨l2.toArray⟩ : ByteArray).size : Nat) : Int) > IntKind.i64.max) := h0
      simp only [binOp, Op.stringOp, if_neg h2, e, Sem.run_pure]
    case eql =>
      subst h1
      refine ⟨_, ?_, rfl⟩
      simp [binOp, Op.stringOp, Lib.toList_data]
    case neq =>
      subst h1
      refine ⟨_, ?_, rfl⟩
      simp [binOp, Op.stringOp, Lib.toList_data]
  · rename_i b1 b2
    simp only [VRel, CRel] at hx hy
    subst hx; subst hy
    split at h
    · rename_i ti hti
      cases h
      have hu := (hT _ _ hti).kd
      simp only [kdOk] at hu
      refine ⟨.bool (b1 == b2), ?_, rfl⟩
      have hg : ∀ op, (eqGuard op t ox oy (.bool b1) (.bool b2)).run P w = .ok () w := fun op => by cases op <;> simp [eqGuard]
      simp only [Sem.run_bind, hg, Result.andThen_ok, binOp, run_equal_bool hu, Sem.run_pure]
    · rename_i ti hti
      cases h
      have hu := (hT _ _ hti).kd
      simp only [kdOk] at hu
      refine ⟨.bool (!(b1 == b2)), ?_, rfl⟩
      have hg : ∀ op, (eqGuard op t ox oy (.bool b1) (.bool b2)).run P w = .ok () w := fun op => by cases op <;> simp [eqGuard]
      simp only [Sem.run_bind, hg, Result.andThen_ok, binOp, run_equal_bool hu, Sem.run_pure]
    · cases h
  · rename_i n1 as n2 bs
    obtain ⟨us, rfl, _, hx⟩ := hx
    obtain ⟨vs, rfl, _, hy⟩ := hy
    split at h
    · rename_i ti hti
      cases hc : (ti.agg && !ti.ks.isEmpty && kinds as ti.ks && kinds bs ti.ks) with
      | false => simp [hc] at h
      | true =>
        simp only [hc, cond_true] at h
        simp only [Bool.and_eq_true, Bool.not_eq_true', List.isEmpty_eq_false_iff] at hc
        obtain ⟨⟨⟨ha, hne⟩, h1⟩, h2⟩ := hc
        have ht := hT _ _ hti
        obtain ⟨hf, hgd⟩ := ht.ks hne
        have hg := run_eqGuard_flat hgd op ox oy us vs w
        have he := run_equalIn_flat (P := P) 10000 t ti.ks us.toList vs.toList w hf (kinds_knd hx h1) (kinds_knd hy h2)
        rw [valT, valT, ht.aggT ha, if_pos rfl, if_pos rfl] at he
        simp only [Array.toArray_toList] at he
        rw [← ceqs_veqs hx hy h1 h2] at he
        simp only [Sem.run_bind, hg, Result.andThen_ok]
        split at h
        · cases h
          exact ⟨_, by simp only [binOp, Op.equal, Op.maxDepth, Sem.run_bind, he, Result.andThen_ok, Sem.run_pure], rfl⟩
        · cases h
          exact ⟨_, by simp only [binOp, Op.equal, Op.maxDepth, Sem.run_bind, he, Result.andThen_ok, Sem.run_pure], rfl⟩
        · cases h
    · cases h
  · simp only [VRel, CRel] at hx hy
    subst hx; subst hy
    split at h
    · rename_i hti
      cases h
      obtain ⟨e, hu⟩ := (hT _ _ hti).kd
      refine ⟨.bool true, ?_, rfl⟩
      have hg : ∀ op, (eqGuard op t ox oy (.pointer none) (.pointer none)).run P w = .ok () w := fun op => by cases op <;> simp [eqGuard]
      simp only [Sem.run_bind, hg, Result.andThen_ok, binOp, run_equal_np1 hu, Sem.run_pure, Bool.not_true, Bool.not_false]
    · rename_i hti
      cases h
      obtain ⟨e, hu⟩ := (hT _ _ hti).kd
      refine ⟨.bool false, ?_, rfl⟩
      have hg : ∀ op, (eqGuard op t ox oy (.pointer none) (.pointer none)).run P w = .ok () w := fun op => by cases op <;> simp [eqGuard]
      simp only [Sem.run_bind, hg, Result.andThen_ok, binOp, run_equal_np1 hu, Sem.run_pure, Bool.not_true, Bool.not_false]
    · cases h
  · rename_i id off
    obtain ⟨_, ad0, _, hx⟩ := hx
    simp only [VRel, CRel] at hy
    subst hy
    obtain ⟨ad, rfl⟩ : ∃ ad, u = .pointer (some ad) := ⟨_, hx⟩
    split at h
    · rename_i hti
      cases h
      obtain ⟨e, hu⟩ := (hT _ _ hti).kd
      refine ⟨.bool false, ?_, rfl⟩
      have hg : ∀ op, (eqGuard op t ox oy (.pointer (some ad)) (.pointer none)).run P w = .ok () w := fun op => by cases op <;> simp [eqGuard]
      simp only [Sem.run_bind, hg, Result.andThen_ok, binOp, run_equal_np2 hu _, Sem.run_pure, Bool.not_true, Bool.not_false]
    · rename_i hti
      cases h
      obtain ⟨e, hu⟩ := (hT _ _ hti).kd
      refine ⟨.bool true, ?_, rfl⟩
      have hg : ∀ op, (eqGuard op t ox oy (.pointer (some ad)) (.pointer none)).run P w = .ok () w := fun op => by cases op <;> simp [eqGuard]
      simp only [Sem.run_bind, hg, Result.andThen_ok, binOp, run_equal_np2 hu _, Sem.run_pure, Bool.not_true, Bool.not_false]
    · cases h
  · rename_i id off g
    obtain ⟨_, ad0, n0, c0, _, hx⟩ := hx
    simp only [VRel, CRel] at hy
    subst hy
    obtain ⟨ad, rfl⟩ : ∃ ad, u = .pointer (some ad) := ⟨_, hx⟩
    split at h
    · rename_i hti
      cases h
      obtain ⟨e, hu⟩ := (hT _ _ hti).kd
      refine ⟨.bool false, ?_, rfl⟩
      have hg : ∀ op, (eqGuard op t ox oy (.pointer (some ad)) (.pointer none)).run P w = .ok () w := fun op => by cases op <;> simp [eqGuard]
      simp only [Sem.run_bind, hg, Result.andThen_ok, binOp, run_equal_np2 hu _, Sem.run_pure, Bool.not_true, Bool.not_false]
    · rename_i hti
      cases h
      obtain ⟨e, hu⟩ := (hT _ _ hti).kd
      refine ⟨.bool true, ?_, rfl⟩
      have hg : ∀ op, (eqGuard op t ox oy (.pointer (some ad)) (.pointer none)).run P w = .ok () w := fun op => by cases op <;> simp [eqGuard]
      simp only [Sem.run_bind, hg, Result.andThen_ok, binOp, run_equal_np2 hu _, Sem.run_pure, Bool.not_true, Bool.not_false]
    · cases h
  · cases h
theorem vun_rel {op : UnOp} {x z : V} {u : Value} (h : vun op x = some z) (hx : VRel ρ H x u) : ∃ r, (Op.unary op u).run P w = .ok r w ∧ VRel ρ H z r := by
  unfold vun at h
  split at h
  · cases h
    simp only [VRel, CRel] at hx
    subst hx
    exact ⟨_, by simp [Op.unary, Op.intArith, wrapQ_eq], rfl⟩
  · cases h
    simp only [VRel, CRel] at hx
    subst hx
    exact ⟨_, by simp [Op.unary], rfl⟩
  · cases h
theorem min2_rel {mx : Bool} {x y z : V} {u v : Value} (h : min2C mx x y = some z) (hx : VRel ρ H x u) (hy : VRel ρ H y v) :
    ∃ r, (if mx then Builtin.max2 u v else Builtin.min2 u v).run P w = .ok r w ∧ VRel ρ H z r := by
  unfold min2C at h
  split at h
  · rename_i k m k' n
    simp only [VRel, CRel] at hx hy
    subst hx; subst hy
    cases hk : Nat.beq k.ctorIdx k'.ctorIdx with
    | false => simp [hk] at h
    | true =>
      simp only [hk, cond_true, Option.some.injEq] at h
      subst h
      cases mx
      · refine ⟨_, by simp [Builtin.min2]; rfl, ?_⟩
        simp only [VRel, CRel, cond_false, leI_eq]
        by_cases h : m ≤ n
        · have h2 : ¬ n < m := by omega
          simp [h, h2]
        · have h2 : n < m := by omega
          simp [h, h2]
      · refine ⟨_, by simp [Builtin.max2]; rfl, ?_⟩
        simp only [VRel, CRel, cond_true, leI_eq]
        by_cases h : n ≤ m
        · have h2 : ¬ m < n := by omega
          simp [h, h2]
        · have h2 : m < n := by omega
          simp [h, h2]
  · cases h
theorem minC_rel (mx : Bool) : ∀ {r : List V} {vs : List Value} {x z : V} {u : Value}, minC mx r x = some z → VRel ρ H x u → All2 (VRel ρ H) r vs →
    ∃ q, (vs.foldlM (if mx then Builtin.max2 else Builtin.min2) u).run P w = .ok q w ∧ VRel ρ H z q
  | [], vs, x, z, u, h, hx, hr => by
    cases h
    obtain rfl : vs = [] := List.eq_nil_of_length_eq_zero hr.1.symm
    exact ⟨u, by simp, hx⟩
  | y :: r, [], x, z, u, h, hx, hr => by have := hr.1; simp at this
  | y :: r, v :: vs, x, z, u, h, hx, hr => by
    have h2 : (match min2C mx x y with
      | some z => minC mx r z
      | none => none) = some z := h
    cases hm : min2C mx x y with
    | none => simp [hm] at h2
    | some x' =>
      simp only [hm] at h2
      obtain ⟨q, h3, h4⟩ := min2_rel (P := P) (w := w) hm hx (hr.2 0 _ _ rfl rfl)
      obtain ⟨q2, h5, h6⟩ := minC_rel mx h2 h4 (vs := vs) ⟨by simpa using hr.1, fun i x y a b => hr.2 (i + 1) x y (by simpa using a) (by simpa using b)⟩
      refine ⟨q2, ?_, h6⟩
      have h3' : ((if mx then Builtin.max2 else Builtin.min2) u v).run P w = .ok q w := by cases mx <;> simpa using h3
      simp only [List.foldlM_cons, Sem.run_bind, h3', Result.andThen_ok, h5]
end
end Go.Proofs.Ytgfeohklkinccaa.Pe
set_option linter.unusedVariables false
namespace Go.Proofs.Ytgfeohklkinccaa.Pe
open Go.Proofs.Ytgfeohklkinccaa.B (add_at)
theorem add_add (a : Addr) (m n : Nat) : (a.add m).add n = a.add (m + n) := by
  unfold Addr.add
  by_cases hm : m = 0
  · subst hm; simp
  · by_cases hn : n = 0
    · subst hn; simp
    · simp [hm, hn, Nat.add_assoc]
theorem add_zero (a : Addr) : a.add 0 = a := by simp [Addr.add]
theorem bif_some {α : Type} {b : Bool} {x : Option α} {y : α} (h : (bif b then x else none) = some y) : b = true ∧ x = some y := by cases b <;> simp_all
theorem sub_some {m : Nat} {xs ys : List C} {off n : Nat} (h : sub m xs off n = some ys) (hl : xs.length = m) : ys = (xs.drop off).take n ∧ (0 < n → off + n ≤ m) ∧ ys.length = n := by
  unfold sub at h
  cases hb : (Nat.beq off 0 && Nat.beq n m) with
  | true =>
    simp only [hb, cond_true, Option.some.injEq] at h
    simp only [Bool.and_eq_true] at hb
    have h1 := beq_nat hb.1
    have h2 := beq_nat hb.2
    subst h1; subst h2; subst h
    rw [List.drop_zero, List.take_of_length_le (by omega)]
    exact ⟨rfl, fun _ => by omega, hl⟩
  | false =>
    simp only [hb, cond_false] at h
    obtain ⟨h1, h2⟩ := takeL_some _ _ _ h
    rw [dropL_eq] at h1 h2
    have h3 := h2
    rw [List.length_drop] at h2
    exact ⟨h1, fun _ => by omega, by rw [h1, List.length_take]; omega⟩
section
variable {P : Program} {T : Tys} {t : TypeId} {ti : TI} {ρ : Ren} {H : Heap} {w : World} {a : Act}
/-- n cells lie at a place. -/
def Lies (w : World) (ad : Addr) (vs : List Value) : Prop := ∀ j u, vs[j]? = some u → w.cell? (ad.add j) = some u
theorem Lies.sub {ad : Addr} {vs : List Value} (h : Lies w ad vs) (off n : Nat) : Lies w (ad.add off) ((vs.drop off).take n) := by
  intro j u hu
  rw [List.getElem?_take] at hu
  split at hu
  · rw [List.getElem?_drop] at hu
    rw [add_add]
    exact h _ u hu
  · cases hu
theorem rdAt_rel {x : C} {n : Nat} {cs : List C} {v : Value} (h : rdAt H x n = some cs) (hH : HRel ρ H w) (hv : CRel ρ H x v) :
    ∃ ad vs, v = .pointer (some ad) ∧ cs.length = n ∧ Cels ρ H cs vs ∧ Lies w ad vs := by
  cases x <;> simp only [rdAt, reduceCtorEq, getL_eq] at h
  case p id off =>
    obtain ⟨_, ad, e, rfl⟩ := hv
    split at h
    · rename_i wr m cells hb
      obtain ⟨hl, g, ty, vs, h1, h2, h3⟩ := hH.blk _ _ hb
      rw [e] at h1
      injection h1 with h1; injection h1 with h1
      subst h1
      obtain ⟨e1, e2, e3⟩ := sub_some h hl
      refine ⟨_, (vs.toList.drop off).take n, rfl, e3, by rw [e1]; exact (h3.drop off).take n, Lies.sub (fun j u hu => ?_) off n⟩
      rw [add_at, cell_of_row w g _ vs ty (0, 0) h2]
      simpa using hu
    · cases h
  case q id off gen =>
    obtain ⟨_, ad, k, c, e, rfl⟩ := hv
    split at h
    · rename_i wr cells m lo sz ty hb
      obtain ⟨hc, h⟩ := bif_some h
      simp only [Bool.and_eq_true] at hc
      have c1 := ble_nat hc.1
      have c2 := ble_nat hc.2
      obtain ⟨h0, h1, h2, h3⟩ := hH.blk _ _ hb
      obtain ⟨b, hb', hg⟩ := ‹Gb H id gen›
      rw [hb] at hb'
      cases hb'
      obtain ⟨xs, h4, h5⟩ := h3 gen c1 (Nat.le_of_lt_succ hg)
      rw [e] at h5
      obtain ⟨e1, e2, e3⟩ := sub_some h h1
      have h6 : (Value.slice (some ad) k c).ownBlock = some ad.block := rfl
      have had : ad = ⟨ad.block, 0, none⟩ := by
        rcases h5.2 with ⟨h5, _⟩ | ⟨g, cap, cur, h5, _⟩
        · cases h5
        · injection h5 with h5; injection h5 with h5; rw [h5]
      refine ⟨_, (xs.drop off).take n, rfl, e3, ?_, Lies.sub (fun j u hu => ?_) off n⟩
      · have := (h4.drop off).take n
        rw [List.drop_take, List.take_take, Nat.min_eq_left (by omega)] at this
        rw [e1]; exact this
      · rw [had]; exact h5.cells h6 j u hu
    · rename_i cells m sz hb
      obtain ⟨hc, h⟩ := bif_some h
      have c1 := beq_nat hc
      subst c1
      obtain ⟨h0, h1, A, c', h2, h3, h4⟩ := hH.blk _ _ hb
      rw [e] at h2
      obtain ⟨e1, e2, e3⟩ := sub_some h h0
      by_cases hn : 0 < gen
      · obtain ⟨ad', xs, h5, h6, h7, _⟩ := h4 hn
        injection h2 with h2
        rw [h5] at h2
        injection h2 with h2
        subst h2
        exact ⟨_, (xs.drop off).take n, rfl, e3, by rw [e1]; exact (h6.drop off).take n, Lies.sub h7 off n⟩
      · have hc : cells = [] := List.eq_nil_of_length_eq_zero (by rw [h0, show gen = 0 by omega, Nat.zero_mul])
        subst hc
        simp at e1
        subst e1
        exact ⟨_, [], rfl, e3, All2.nil, fun j u hu => by simp at hu⟩
    · cases h
theorem run_cells {ad : Addr} {vs : List Value} (h : Lies w ad vs) {n : Nat} (hn : vs.length = n) : (loadCells ad n).run P w = .ok vs.toArray w := by
  subst hn
  exact run_loadCells_list w ad vs h
theorem vload_rel {x z : V} {u : Value} (hT : TabOk P T) (h : vload T H t x = some z) (hH : HRel ρ H w) (hx : VRel ρ H x u) : ∃ r, (Instr.loadAt t u).run P w = .ok r w ∧ VRel ρ H z r := by
  unfold vload at h
  split at h
  · rename_i x ti hti
    have ht := hT _ _ hti
    cases ha : ti.agg with
    | true =>
      simp only [ha, cond_true] at h
      split at h
      · rename_i cs hr
        cases h
        obtain ⟨ad, vs, rfl, h1, h2, h3⟩ := rdAt_rel hr hH hx
        have hl : vs.length = ti.size := h2.1.symm.trans h1
        refine ⟨.agg vs.toArray, ?_, vs.toArray, rfl, h1, by simpa using h2⟩
        simp only [Instr.loadAt, Instr.sureAddr, loadVar, Sem.run_bind, Sem.run_pure, Result.andThen_ok, ht.isAgg, ha, if_true, ht.size, run_cells h3 hl]
      · cases h
    | false =>
      simp only [ha, cond_false] at h
      split at h
      · rename_i c rest hr
        cases h
        obtain ⟨ad, vs, rfl, h1, h2, h3⟩ := rdAt_rel hr hH hx
        obtain ⟨v, h4, h5⟩ := h2.get (i := 0) rfl
        have h6 := h3 0 v h4
        rw [add_zero] at h6
        refine ⟨v, ?_, h5.2⟩
        simp [Instr.loadAt, Instr.sureAddr, loadVar, ht.isAgg, ha, h6]
      · cases h
  · cases h
theorem vpart_rel {cs : List C} {vs : Array Value} {off : Nat} {z : V} (hT : TabOk P T) (h : vpart T t cs off = some z) (hc : Cels ρ H cs vs.toList) : ∃ r, (part t vs off).run P w = .ok r w ∧ VRel ρ H z r := by
  unfold vpart at h
  split at h
  · rename_i ti hti
    have ht := hT _ _ hti
    cases ha : ti.agg with
    | true =>
      simp only [ha, cond_true] at h
      split at h
      · rename_i xs hr
        cases h
        obtain ⟨h1, h2⟩ := takeL_some _ _ _ hr
        rw [dropL_eq] at h1 h2
        refine ⟨.agg (vs.extract off (off + ti.size)), ?_, _, rfl, by rw [h1, List.length_take]; omega, ?_⟩
        · simp only [part, Sem.run_bind, ht.isAgg, ha, Result.andThen_ok, if_true, ht.size, Sem.run_pure]
        · rw [h1, Array.toList_extract, List.extract_eq_take_drop, Nat.add_sub_cancel_left]
          exact (hc.drop off).take ti.size
      · cases h
    | false =>
      simp only [ha, cond_false] at h
      split at h
      · rename_i c hr
        cases h
        rw [getL_eq] at hr
        obtain ⟨v, h4, h5⟩ := hc.get hr
        refine ⟨v, ?_, h5.2⟩
        have h6 : vs[off]? = some v := by simpa using h4
        simp [part, ht.isAgg, ha, h6]
      · cases h
  · cases h
theorem vfield_rel {x z : V} {u : Value} {f : Nat} (hT : TabOk P T) (h : vfield T t x f = some z) (hx : VRel ρ H x u) : ∃ r, (Instr.field t u f).run P w = .ok r w ∧ VRel ρ H z r := by
  unfold vfield at h
  split at h
  · rename_i n cs fs s1 s2 s3 s4 hti
    obtain ⟨F, hu, hF, _⟩ := (hT _ _ hti).kd
    obtain ⟨vs, rfl, _, hc⟩ := hx
    split at h
    · rename_i off ft hf
      rw [getL_eq, ← hF, List.getElem?_map] at hf
      cases hq : F.toList[f]? with
      | none => simp [hq] at hf
      | some fd =>
        simp only [hq, Option.map_some, Option.some.injEq, Prod.mk.injEq] at hf
        obtain ⟨rfl, rfl⟩ := hf
        obtain ⟨r, h1, h2⟩ := vpart_rel (P := P) (w := w) hT h hc
        have hq' : F[f]? = some fd := by simpa using hq
        exact ⟨r, by simp [Instr.field, run_underlying hu, hq', asAgg, h1], h2⟩
    · cases h
  · cases h
theorem inN_iff {j : Int} {n : Nat} (h : inN j n = true) : 0 ≤ j ∧ j < n := by rw [inN_eq] at h; exact of_decide_eq_true h
theorem vindex_rel {x y z : V} {u v : Value} (hT : TabOk P T) (h : vindex T t x y = some z) (hx : VRel ρ H x u) (hy : VRel ρ H y v) : ∃ r, (Instr.index t u v).run P w = .ok r w ∧ VRel ρ H z r := by
  unfold vindex at h
  split at h
  · rename_i n cs k j m e s1 s2 s3 s4 hti
    have hu := (hT _ _ hti).kd
    simp only [kdOk] at hu
    obtain ⟨vs, rfl, _, hc⟩ := hx
    simp only [VRel, CRel] at hy
    subst hy
    split at h
    · rename_i ei hei
      obtain ⟨hi, h⟩ := bif_some h
      have hi := inN_iff hi
      obtain ⟨r, h1, h2⟩ := vpart_rel (P := P) (w := w) hT h hc
      refine ⟨r, ?_, h2⟩
      simp [Instr.index, asIntOf, run_underlying hu, hi, (hT _ _ hei).size, h1]
    · cases h
  · rename_i l k j s1 s2 s3 s4 hti
    have hu := (hT _ _ hti).kd
    simp only [kdOk] at hu
    simp only [VRel, CRel] at hx hy
    subst hx; subst hy
    split at h
    · rename_i m
      split at h
      · rename_i b hb
        cases h
        rw [getL_eq] at hb
        refine ⟨.int .u8 b.toNat, ?_, rfl⟩
        have h0 : (0 : Int) ≤ Int.ofNat m := Int.natCast_nonneg m
        have h1 : (⟨l.toArray⟩ : ByteArray)[m]? = some b := by
          have hlt : m < l.length := (List.getElem?_eq_some_iff.1 hb).1
          have hs : m < (⟨l.toArray⟩ : ByteArray).size := by show m < l.toArray.size; simpa using hlt
          rw [getElem?_pos _ m hs]
          rw [List.getElem?_eq_getElem hlt] at hb
          injection hb with hb
          rw [← hb]; rfl
        have h2 : (if (0 : Int) ≤ Int.ofNat m then (⟨l.toArray⟩ : ByteArray)[(Int.ofNat m).toNat]? else none) = some b := by
          rw [if_pos h0]; exact h1
        simp only [Instr.index, asIntOf, Sem.run_bind, Sem.run_pure, Result.andThen_ok, run_underlying hu, h2]
      · cases h
    · cases h
  · cases h
theorem vfieldAddr_rel {x z : V} {u : Value} {f : Nat} (hT : TabOk P T) (h : vfieldAddr T t x f = some z) (hx : VRel ρ H x u) : ∃ r, (Instr.fieldAt t u f).run P w = .ok r w ∧ VRel ρ H z r := by
  unfold vfieldAddr at h
  split at h
  · rename_i fs s1 s2 s3 s4 hti
    obtain ⟨F, hu, hF, _⟩ := (hT _ _ hti).kd
    split at h
    · rename_i o ft hf
      rw [getL_eq, ← hF, List.getElem?_map] at hf
      cases hq : F.toList[f]? with
      | none => simp [hq] at hf
      | some fd =>
        simp only [hq, Option.map_some, Option.some.injEq, Prod.mk.injEq] at hf
        obtain ⟨rfl, rfl⟩ := hf
        have hq' : F[f]? = some fd := by simpa using hq
        split at h
        · rename_i fi hfi
          cases hz : Nat.beq fi.size 0 with
          | true => simp [hz] at h
          | false =>
            simp only [hz, cond_false] at h
            have hz' : fi.size ≠ 0 := fun e => by rw [e] at hz; simp at hz
            have hp : ∀ ad : Addr, (fieldPlace ad fd).run P w = .ok (ad.add fd.offset) w := fun ad => by
              simp [fieldPlace, (hT _ _ hfi).size, hz']
            split at h
            · cases h
              obtain ⟨g, ad, e, rfl⟩ := hx
              refine ⟨_, by simp [Instr.fieldAt, run_underlying hu, hq', Instr.sureAddr, hp]; rfl, g, ad, e, ?_⟩
              rw [add_add]
            · cases h
              obtain ⟨g, ad, n, c, e, rfl⟩ := hx
              refine ⟨_, by simp [Instr.fieldAt, run_underlying hu, hq', Instr.sureAddr, hp]; rfl, g, ad, n, c, e, ?_⟩
              rw [add_add]
            · cases h
        · cases h
    · cases h
  · cases h
theorem vindexAddr_rel {x y z : V} {u v : Value} (hT : TabOk P T) (h : vindexAddr T t x y = some z) (hx : VRel ρ H x u) (hy : VRel ρ H y v) : ∃ r, (Instr.indexAt t u v).run P w = .ok r w ∧ VRel ρ H z r := by
  unfold vindexAddr at h
  split at h
  · rename_i k j n e s1 s2 s3 s4 hti
    have hu := (hT _ _ hti).kd
    simp only [kdOk] at hu
    simp only [VRel, CRel] at hy
    subst hy
    split at h
    · rename_i ei hei
      obtain ⟨hi, h⟩ := bif_some h
      have hi := inN_iff hi
      split at h
      · cases h
        obtain ⟨g, ad, e, rfl⟩ := hx
        refine ⟨_, by simp [Instr.indexAt, asIntOf, run_underlying hu, Instr.sureAddr, hi, (hT _ _ hei).size]; rfl, g, ad, e, ?_⟩
        rw [add_add]
      · cases h
        obtain ⟨g, ad, n, c, e, rfl⟩ := hx
        refine ⟨_, by simp [Instr.indexAt, asIntOf, run_underlying hu, Instr.sureAddr, hi, (hT _ _ hei).size]; rfl, g, ad, n, c, e, ?_⟩
        rw [add_add]
      · cases h
    · cases h
  · rename_i k j e s1 s2 s3 s4 hti
    have hu := (hT _ _ hti).kd
    simp only [kdOk] at hu
    simp only [VRel, CRel] at hy
    subst hy
    split at h
    · rename_i ei hei
      split at h
      · rename_i id off len gen
        obtain ⟨hi, h⟩ := bif_some h
        have hi := inN_iff hi
        cases h
        obtain ⟨g, hlg, A, c, rfl, hlc, hf, ha⟩ := hx
        obtain ⟨ad, n, c', e, rfl⟩ := ha (by omega)
        refine ⟨_, by simp [Instr.indexAt, asIntOf, run_underlying hu, hi, (hT _ _ hei).size]; rfl, g, ad, n, c', e, ?_⟩
        rw [add_add]
      · rename_i id off len cap
        obtain ⟨hi, h⟩ := bif_some h
        have hi := inN_iff hi
        cases h
        obtain ⟨g, A, rfl, hlc, ha⟩ := hx
        obtain ⟨ad, e, rfl⟩ := ha (by omega)
        refine ⟨_, by simp [Instr.indexAt, asIntOf, run_underlying hu, hi, (hT _ _ hei).size]; rfl, g, ad, e, ?_⟩
        rw [add_add]
      · rename_i id off len cap gen
        obtain ⟨hi, h⟩ := bif_some h
        have hi := inN_iff hi
        cases h
        obtain ⟨g, A, rfl, hlc, ha⟩ := hx
        obtain ⟨ad, n, c', e, rfl⟩ := ha (by omega)
        refine ⟨_, by simp [Instr.indexAt, asIntOf, run_underlying hu, hi, (hT _ _ hei).size]; rfl, g, ad, n, c', e, ?_⟩
        rw [add_add]
      · cases h
    · cases h
  · cases h
end
end Go.Proofs.Ytgfeohklkinccaa.Pe
set_option linter.unusedVariables false
namespace Go.Proofs.Ytgfeohklkinccaa.Pe
section
variable {P : Program} {T : Tys} {t : TypeId} {ti : TI} {ρ : Ren} {H : Heap} {w : World} {a : Act}
def ORel (ρ : Ren) (H : Heap) : Option V → Option Value → Prop
  | none, none => True
  | some x, some v => VRel ρ H x v
  | _, _ => False
theorem bnds_rel {b : Bool} {len lim cap l h : Nat} {lo hi : Option V} {lo' hi' : Option Value} (hb : bnds len lim lo hi = some (l, h)) (h1 : ORel ρ H lo lo') (h2 : ORel ρ H hi hi') (hl : len ≤ lim) (hc : lim ≤ cap) :
    (Instr.sliceBounds b len cap lo' hi' none).run P w = .ok (l, h, cap) w ∧ l ≤ h ∧ h ≤ lim := by
  have key : ∀ (c : BoundsCode) (k : IntKind) (j : Int) (n : Nat), 0 ≤ j → j ≤ n → (Instr.sliceBound (.int k j) n c).run P w = .ok j.toNat w := by
    intro c k j n a b
    simp [Instr.sliceBound, asIntOf, a, b]
  unfold bnds at hb
  split at hb
  · cases hb
  · rename_i hh heq
    have hhi : (hi' = none ∧ hh = len) ∨ (∃ k j, hi' = some (.int k j) ∧ 0 ≤ j ∧ j ≤ (lim : Int) ∧ hh = j.toNat) := by
      split at heq
      · cases heq
        cases hi' with
        | none => exact .inl ⟨rfl, rfl⟩
        | some v => exact h2.elim
      · rename_i k j
        obtain ⟨hj, heq⟩ := bif_some heq
        cases heq
        have hj := inN_iff hj
        cases hi' with
        | none => exact h2.elim
        | some v =>
          simp only [ORel, VRel, CRel] at h2
          subst h2
          exact .inr ⟨k, j, rfl, hj.1, by omega, rfl⟩
      · cases heq
    have hlo : (lo' = none ∧ l = 0 ∧ h = hh) ∨ (∃ k j, lo' = some (.int k j) ∧ 0 ≤ j ∧ j ≤ (hh : Int) ∧ l = j.toNat ∧ h = hh) := by
      split at hb
      · cases hb
        cases lo' with
        | none => exact .inl ⟨rfl, rfl, rfl⟩
        | some v => exact h1.elim
      · rename_i k j
        obtain ⟨hj, hb⟩ := bif_some hb
        cases hb
        have hj := inN_iff hj
        cases lo' with
        | none => exact h1.elim
        | some v =>
          simp only [ORel, VRel, CRel] at h1
          subst h1
          exact .inr ⟨k, j, rfl, hj.1, by omega, rfl, rfl⟩
      · cases hb
    clear hb heq h1 h2
    rcases hhi with ⟨rfl, rfl⟩ | ⟨k, j, rfl, hj0, hj1, rfl⟩ <;> rcases hlo with ⟨rfl, rfl, rfl⟩ | ⟨k', j', rfl, hk0, hk1, rfl, rfl⟩
    · exact ⟨by simp [Instr.sliceBounds], by omega, by omega⟩
    · exact ⟨by simp [Instr.sliceBounds, key _ k' j' _ hk0 hk1], by omega, by omega⟩
    · exact ⟨by simp [Instr.sliceBounds, key _ k j cap hj0 (by omega)], by omega, by omega⟩
    · exact ⟨by simp [Instr.sliceBounds, key _ k j cap hj0 (by omega), key _ k' j' _ hk0 hk1], by omega, by omega⟩
theorem string_extract (s : List UInt8) (l h : Nat) (h2 : h ≤ s.length) : (⟨s.toArray⟩ : ByteArray).extract l h = ⟨((s.drop l).take (h - l)).toArray⟩ := by
  apply ByteArray.ext
  rw [ByteArray.data_extract]
  apply Array.ext'
  simp [List.extract_eq_take_drop]
theorem vslice_rel {x z : V} {u : Value} {lo hi : Option V} {lo' hi' : Option Value} (hT : TabOk P T) (h : vslice T t x lo hi = some z) (hx : VRel ρ H x u) (h1 : ORel ρ H lo lo') (h2 : ORel ρ H hi hi') :
    ∃ r, (Instr.sliceAt t u lo' hi' none).run P w = .ok r w ∧ VRel ρ H z r := by
  unfold vslice at h
  split at h
  · rename_i n e s1 s2 s3 s4 hti
    have hu := (hT _ _ hti).kd
    simp only [kdOk] at hu
    split at h
    · rename_i ei id off hei
      split at h
      · rename_i l hh hb
        cases h
        obtain ⟨hr, hlh, hhn⟩ := bnds_rel (P := P) (w := w) (b := false) hb h1 h2 (Nat.le_refl _) (Nat.le_refl _)
        obtain ⟨g, ad, e, rfl⟩ := hx
        refine ⟨_, by simp only [Instr.sliceAt, run_underlying hu, Instr.sureAddr, Sem.run_bind, Sem.run_pure, Result.andThen_ok, hr, (hT _ _ hei).size]; rfl, g, _, rfl, by omega, fun hc => ⟨ad, e, ?_⟩⟩
        rw [if_neg (by omega), add_add]
      · cases h
    · rename_i ei id off gen hei
      split at h
      · rename_i l hh hb
        cases h
        obtain ⟨hr, hlh, hhn⟩ := bnds_rel (P := P) (w := w) (b := false) hb h1 h2 (Nat.le_refl _) (Nat.le_refl _)
        obtain ⟨g, ad, m, c, e, rfl⟩ := hx
        refine ⟨_, by simp only [Instr.sliceAt, run_underlying hu, Instr.sureAddr, Sem.run_bind, Sem.run_pure, Result.andThen_ok, hr, (hT _ _ hei).size]; rfl, g, _, rfl, by omega, fun hc => ⟨ad, m, c, e, ?_⟩⟩
        rw [if_neg (by omega), add_add]
      · cases h
    · cases h
  · rename_i e s1 s2 s3 s4 hti
    have hu := (hT _ _ hti).kd
    simp only [kdOk] at hu
    split at h
    · rename_i ei id off len gen hei
      split at h
      · rename_i l hh hb
        obtain ⟨hs, h⟩ := bif_some h
        have hs := ble_nat hs
        cases h
        obtain ⟨g, hlg, A, c, rfl, hlc, hf, ha⟩ := hx
        obtain ⟨hr, hlh, hhn⟩ := bnds_rel (P := P) (w := w) (b := true) (cap := c) hb h1 h2 (Nat.le_refl _) hlc
        refine ⟨_, by simp only [Instr.sliceAt, Instr.slice, run_underlying hu, Sem.run_bind, Sem.run_pure, Result.andThen_ok, hr, (hT _ _ hei).size]; rfl, g, by omega, _, _, rfl, by omega, fun h3 h4 => ?_, fun h3 => ?_⟩
        · have hl0 : l = 0 := by
            rcases Nat.eq_zero_or_pos l with h | h
            · exact h
            · have := Nat.mul_pos h hs
              omega
          subst hl0
          have h5 : len = gen := by omega
          have h6 : hh = len := by omega
          rw [← hf (by omega) h5, h6]
          by_cases hc0 : c = 0
          · simp [hc0]
          · simp only [hc0, if_false, Nat.zero_mul, Nat.sub_zero]
            cases A <;> simp [add_zero]
        · obtain ⟨ad, m, c', e, rfl⟩ := ha (by omega)
          refine ⟨ad, m, c', e, ?_⟩
          rw [if_neg (by omega)]
          simp [add_add]
      · cases h
    · rename_i ei id off len cap hei
      split at h
      · rename_i l hh hb
        cases h
        obtain ⟨g, A, rfl, hlc, ha⟩ := hx
        obtain ⟨hr, hlh, hhn⟩ := bnds_rel (P := P) (w := w) (b := true) (cap := cap) hb h1 h2 hlc (Nat.le_refl _)
        refine ⟨_, by simp only [Instr.sliceAt, Instr.slice, run_underlying hu, Sem.run_bind, Sem.run_pure, Result.andThen_ok, hr, (hT _ _ hei).size]; rfl, g, _, rfl, by omega, fun h3 => ?_⟩
        obtain ⟨ad, e, rfl⟩ := ha (by omega)
        refine ⟨ad, e, ?_⟩
        rw [if_neg (by omega)]
        simp [add_add]
      · cases h
    · rename_i ei id off len cap gen hei
      split at h
      · rename_i l hh hb
        cases h
        obtain ⟨g, A, rfl, hlc, ha⟩ := hx
        obtain ⟨hr, hlh, hhn⟩ := bnds_rel (P := P) (w := w) (b := true) (cap := cap) hb h1 h2 hlc (Nat.le_refl _)
        refine ⟨_, by simp only [Instr.sliceAt, Instr.slice, run_underlying hu, Sem.run_bind, Sem.run_pure, Result.andThen_ok, hr, (hT _ _ hei).size]; rfl, g, _, rfl, by omega, fun h3 => ?_⟩
        obtain ⟨ad, m, c', e, rfl⟩ := ha (by omega)
        refine ⟨ad, m, c', e, ?_⟩
        rw [if_neg (by omega)]
        simp [add_add]
      · cases h
    · rename_i ei hei
      split at h
      · rename_i lh hb
        cases h
        obtain ⟨l, hh⟩ := lh
        simp only [VRel, CRel] at hx
        subst hx
        obtain ⟨hr, hlh, hhn⟩ := bnds_rel (P := P) (w := w) (b := true) (cap := 0) hb h1 h2 (Nat.le_refl _) (Nat.le_refl _)
        refine ⟨.slice none 0 0, ?_, rfl⟩
        have e1 : l = 0 := by omega
        have e2 : hh = 0 := by omega
        subst e1; subst e2
        simp [Instr.sliceAt, Instr.slice, run_underlying hu, hr, (hT _ _ hei).size]
      · cases h
    · cases h
  · rename_i s1 s2 s3 s4 hti
    have hu := (hT _ _ hti).kd
    simp only [kdOk] at hu
    split at h
    · rename_i s
      split at h
      · rename_i l hh hb
        split at h
        · rename_i s' hs
          cases h
          simp only [VRel, CRel] at hx
          subst hx
          obtain ⟨hr, hlh, hhn⟩ := bnds_rel (P := P) (w := w) (b := false) (cap := s.length) hb h1 h2 (Nat.le_refl _) (Nat.le_refl _)
          obtain ⟨e1, e2⟩ := takeL_some _ _ _ hs
          rw [dropL_eq] at e1
          have hsz : (⟨s.toArray⟩ : ByteArray).size = s.length := by simp [ByteArray.size]
          refine ⟨.string ⟨s'.toArray⟩, ?_, rfl⟩
          simp only [Instr.sliceAt, Instr.slice, run_underlying hu, Sem.run_bind, Sem.run_pure, Result.andThen_ok, hsz, hr, string_extract s l hh hhn, e1, Option.isSome_none, Bool.false_eq_true, if_false]
        · cases h
      · cases h
    · cases h
  · cases h
theorem vlen_rel {x z : V} {u : Value} {ty : TypeId} (hT : TabOk P T) (h : vlen T H t x = some z) (hH : HRel ρ H w) (hx : VRel ρ H x u) : ∃ r, (Builtin.len_ #[t] ty #[u]).run P w = .ok r w ∧ VRel ρ H z r := by
  unfold vlen at h
  split at h
  · rename_i s1 s2 s3 s4 l hti
    have hu := (hT _ _ hti).kd
    simp only [kdOk] at hu
    cases h
    simp only [VRel, CRel] at hx
    subst hx
    exact ⟨_, by simp [Builtin.len_, run_underlying hu]; rfl, by simp [VRel, CRel, goInt, ByteArray.size]⟩
  · rename_i n e s1 s2 s3 s4 hti
    have hu := (hT _ _ hti).kd
    simp only [kdOk] at hu
    cases h
    exact ⟨_, by simp [Builtin.len_, run_underlying hu]; rfl, rfl⟩
  · rename_i e s1 s2 s3 s4 id off n gen hti
    have hu := (hT _ _ hti).kd
    simp only [kdOk] at hu
    cases h
    obtain ⟨g, hlg, A, c, rfl, _⟩ := hx
    exact ⟨_, by simp [Builtin.len_, run_underlying hu]; rfl, rfl⟩
  · rename_i e s1 s2 s3 s4 id off n gen hti
    have hu := (hT _ _ hti).kd
    simp only [kdOk] at hu
    cases h
    obtain ⟨g, A, rfl, _⟩ := hx
    exact ⟨_, by simp [Builtin.len_, run_underlying hu]; rfl, rfl⟩
  · rename_i e s1 s2 s3 s4 id off n cap gen hti
    have hu := (hT _ _ hti).kd
    simp only [kdOk] at hu
    cases h
    obtain ⟨g, A, rfl, _⟩ := hx
    exact ⟨_, by simp [Builtin.len_, run_underlying hu]; rfl, rfl⟩
  · rename_i e s1 s2 s3 s4 hti
    have hu := (hT _ _ hti).kd
    simp only [kdOk] at hu
    cases h
    simp only [VRel, CRel] at hx
    subst hx
    exact ⟨_, by simp [Builtin.len_, run_underlying hu]; rfl, rfl⟩
  · rename_i s0 s1 s2 s3 s4 s5 id hti
    split at h
    · rename_i wr ks hb
      obtain ⟨g, es, cl, e1, e2, e3, _⟩ := hH.blk _ _ (by rw [← getL_eq]; exact hb)
      have hu := (hT _ _ hti).kd
      simp only [kdOk] at hu
      cases h
      obtain ⟨_, r, e4, rfl⟩ := hx
      rw [e1] at e4
      cases e4
      have hl : es.size = ks.length := by
        have := congrArg List.length e3
        simpa using this
      refine ⟨_, by simp [Builtin.len_, run_underlying hu, Go.MapKept.run_getObj_map e2, Result.andThen]; rfl, ?_⟩
      simp [VRel, CRel, goInt, hl]
    · cases h
  · cases h
theorem vasPtr_rel {x z : V} {u : Value} (hT : TabOk P T) (h : vasPtr T t x = some z) (hx : VRel ρ H x u) : ∃ r, (Instr.arrayAt t u).run P w = .ok r w ∧ VRel ρ H z r := by
  unfold vasPtr at h
  split at h
  · rename_i n e s1 s2 s3 s4 id off len cap hti
    have hu := (hT _ _ hti).kd
    simp only [kdOk] at hu
    obtain ⟨hc, h⟩ := bif_some h
    cases h
    simp only [Bool.and_eq_true] at hc
    have c1 := ble_nat hc.1
    have c2 := ble_nat hc.2
    obtain ⟨g, A, rfl, hlc, ha⟩ := hx
    obtain ⟨ad, e, rfl⟩ := ha (by omega)
    have hn : ¬ len < n := by omega
    exact ⟨.pointer (some (ad.add off)), by simp [Instr.arrayAt, run_underlying hu, hn], g, ad, e, rfl⟩
  · rename_i n e s1 s2 s3 s4 id off len gen hti
    have hu := (hT _ _ hti).kd
    simp only [kdOk] at hu
    obtain ⟨hc, h⟩ := bif_some h
    cases h
    simp only [Bool.and_eq_true] at hc
    have c1 := ble_nat hc.1
    have c2 := ble_nat hc.2
    obtain ⟨g, hlg, A, c, rfl, hlc, hf, ha⟩ := hx
    obtain ⟨ad, m, c', e, rfl⟩ := ha (by omega)
    have hn : ¬ len < n := by omega
    exact ⟨.pointer (some (ad.add off)), by simp [Instr.arrayAt, run_underlying hu, hn], g, ad, m, c', e, rfl⟩
  · cases h
/-! values built -/
theorem splice_some {m off n : Nat} {cs ys cs' : List C} (h : splice m cs off n ys = some cs') (hm : cs.length = m) (hy : ys.length = n) : cs' = cs.take off ++ ys ++ cs.drop (off + n) ∧ off + n ≤ m ∧ cs'.length = m := by
  unfold splice at h
  cases hb : (Nat.beq off 0 && Nat.beq n m) with
  | true =>
    simp only [hb, cond_true, Option.some.injEq] at h
    simp only [Bool.and_eq_true] at hb
    have h1 := beq_nat hb.1
    have h2 := beq_nat hb.2
    subst h1; subst h2; subst h
    refine ⟨?_, by omega, hy⟩
    rw [List.take_zero, List.nil_append, Nat.zero_add, List.drop_of_length_le (by omega), List.append_nil]
  | false =>
    simp only [hb, cond_false] at h
    obtain ⟨h1, h2⟩ := spliceL_some _ _ _ _ h
    subst hy
    refine ⟨h1, by omega, ?_⟩
    rw [h1]
    simp
    omega
theorem Cels.splice {cs ys cs' : List C} {vs us : List Value} {m off n : Nat} (h : splice m cs off n ys = some cs') (hm : cs.length = m) (hy : ys.length = n) (h1 : Cels ρ H cs vs) (h2 : Cels ρ H ys us) : Cels ρ H cs' (vs.take off ++ us ++ vs.drop (off + n)) := by
  obtain ⟨e, _, _⟩ := splice_some h hm hy
  rw [e]
  exact ((h1.take off).append h2).append (h1.drop _)
theorem fold_splice (off : Nat) : ∀ (us : List Value) (k : Nat) (cs : Array Value), off + k + us.length ≤ cs.size →
    ((us.zipIdx k).foldl (fun cs (x : Value × Nat) => cs.setIfInBounds (off + x.2) x.1) cs).toList = cs.toList.take (off + k) ++ us ++ cs.toList.drop (off + k + us.length)
  | [], k, cs, h => by simp
  | u :: us, k, cs, h => by
    simp only [List.zipIdx_cons, List.foldl_cons]
    have hlen : off + (k + 1) + us.length ≤ (cs.setIfInBounds (off + k) u).size := by simp at h ⊢; omega
    rw [fold_splice off us (k + 1) _ hlen]
    simp only [Array.toList_setIfInBounds, List.length_cons]
    have hk : off + k < cs.toList.length := by simp at h ⊢; omega
    rw [show off + (k + 1) = off + k + 1 by omega, show off + k + (us.length + 1) = off + k + 1 + us.length by omega]
    rw [List.drop_set_of_lt (by omega), List.take_succ_eq_append_getElem (by simpa using hk), List.take_set_of_le (Nat.le_refl _)]
    simp
theorem fill_rel {place place' : Nat → Option (Nat × Nat)} {m : Nat} (hp : ∀ i x, place i = some x → place' i = some x) : ∀ {ps : List (Nat × V)} {qs : List (Nat × Value)} {cs cs' : List C} {vs : Array Value},
    fillC place m ps cs = some cs' → All2 (fun (x : Nat × V) (y : Nat × Value) => x.1 = y.1 ∧ VRel ρ H x.2 y.2) ps qs → cs.length = m → Cels ρ H cs vs.toList → ∃ vs', Instr.fill place' vs qs = some vs' ∧ cs'.length = m ∧ Cels ρ H cs' vs'.toList
  | [], qs, cs, cs', vs, h, hq, hm, hc => by
    cases h
    obtain rfl : qs = [] := List.eq_nil_of_length_eq_zero hq.1.symm
    exact ⟨vs, rfl, hm, hc⟩
  | p :: ps, [], cs, cs', vs, h, hq, hm, hc => by have := hq.1; simp at this
  | p :: ps, q :: qs, cs, cs', vs, h, hq, hm, hc => by
    have h2 : (match place p.1, p.2.cells with
      | some (off, size), some (n, ys) => bif Nat.beq n size then match splice m cs off n ys with
        | some cs' => fillC place m ps cs'
        | none => none
        else none
      | _, _ => none) = some cs' := h
    split at h2
    · rename_i off size n ys h3 h4
      obtain ⟨hn, h2'⟩ := bif_some h2
      clear h2
      have hn := beq_nat hn
      subst hn
      split at h2'
      · rename_i cs1 h5
        obtain ⟨hq1, hq2⟩ := hq.2 0 _ _ rfl rfl
        obtain ⟨hy1, hy2⟩ := cells_rel h4 hq2
        obtain ⟨e, hle, hl1⟩ := splice_some h5 hm hy1
        have hus : q.2.cells.size = n := by have := hy2.1; rw [hy1] at this; simpa using this.symm
        have hvs : vs.size = m := by have := hc.1; rw [hm] at this; simpa using this.symm
        have hfold := fold_splice off q.2.cells.toList 0 vs (by simp; omega)
        rw [← Array.toList_zipIdx, Array.foldl_toList] at hfold
        simp only [Nat.add_zero, Array.length_toList, hus] at hfold
        have hc1 : Cels ρ H cs1 (q.2.cells.zipIdx.foldl (fun cs (x : Value × Nat) => cs.setIfInBounds (off + x.2) x.1) vs).toList := by
          rw [hfold]
          exact Cels.splice h5 hm hy1 hc hy2
        obtain ⟨vs', h6, h7, h8⟩ := fill_rel hp (ps := ps) (qs := qs) h2' ⟨by simpa using hq.1, fun i x y a b => hq.2 (i + 1) x y (by simpa using a) (by simpa using b)⟩ hl1 hc1
        refine ⟨vs', ?_, h7, h8⟩
        have hp' := hp _ _ h3
        rw [hq1] at hp'
        obtain ⟨q1, q2⟩ := q
        simp only [Instr.fill, hp']
        have hcond : (decide (q2.cells.size ≠ n) || decide (off + q2.cells.size > vs.size)) = false := by simp; simp at hus; omega
        simp only [hcond, Bool.false_eq_true, if_false]
        exact h6
      · cases h2'
    · cases h2
theorem vbuild_rel {ps : List (Nat × V)} {qs : Array (Nat × Value)} {z : V} (hT : TabOk P T) (h : vbuild T t ps = some z) (hq : All2 (fun (x : Nat × V) (y : Nat × Value) => x.1 = y.1 ∧ VRel ρ H x.2 y.2) ps qs.toList) :
    ∃ r, (Instr.build t qs).run P w = .ok r w ∧ VRel ρ H z r := by
  unfold vbuild at h
  split at h
  · rename_i ti hti
    have ht := hT _ _ hti
    obtain ⟨i, zv, hi1, hi2, hi3, hi4, hi5, hi6⟩ := ht.info
    have hz : Cels ρ H ti.zero zv.cells.toList := cellsOf_rel hi5
    have hkd := ht.kd
    split at h
    · rename_i fs hk
      rw [hk] at hkd
      obtain ⟨F, hu, hF, hall⟩ := hkd
      split at h
      · rename_i cs hf
        cases h
        have hpl : ∃ places, F.toList.mapM (fun f => (P.info? f.type).map fun i => (f.offset, i.size)) = some places ∧ ∀ (j : Nat) fd ii, F.toList[j]? = some fd → P.info? fd.type = some ii → places[j]? = some (fd.offset, ii.size) := by
          have : ∀ (L : List Field), (∀ f ∈ L, (P.info? f.type).isSome = true) → ∃ places, L.mapM (fun f => (P.info? f.type).map fun i => (f.offset, i.size)) = some places ∧ ∀ (j : Nat) fd ii, L[j]? = some fd → P.info? fd.type = some ii → places[j]? = some (fd.offset, ii.size) := by
            intro L
            induction L with
            | nil => intro _; exact ⟨[], by simp, fun j fd ii h => by simp at h⟩
            | cons f L ih =>
              intro hL
              obtain ⟨places, h1, h2⟩ := ih (fun f hf => hL f (List.mem_cons_of_mem _ hf))
              obtain ⟨ii, hii⟩ := Option.isSome_iff_exists.1 (hL f List.mem_cons_self)
              refine ⟨(f.offset, ii.size) :: places, by simp [List.mapM_cons, hii, h1], fun j fd i2 hj hi => ?_⟩
              cases j with
              | zero =>
                simp at hj
                subst hj
                rw [hii] at hi
                cases hi
                rfl
              | succ j => exact h2 j fd i2 (by simpa using hj) hi
          exact this F.toList hall
        obtain ⟨places, hp1, hp2⟩ := hpl
        obtain ⟨vs', h6, h7, h8⟩ := fill_rel (place' := (places.toArray[·]?)) (fun j x hx => by
          split at hx
          · rename_i off ft hg
            rw [getL_eq, ← hF, List.getElem?_map] at hg
            cases hq : F.toList[j]? with
            | none => simp [hq] at hg
            | some fd =>
              simp only [hq, Option.map_some, Option.some.injEq, Prod.mk.injEq] at hg
              obtain ⟨rfl, rfl⟩ := hg
              split at hx
              · rename_i fi hfi
                cases hx
                obtain ⟨ii, _, g1, g2, _⟩ := (hT _ _ hfi).info
                have := hp2 j fd ii hq g1
                simpa [g2] using this
              · cases hx
          · cases hx) hf hq hi6 hz
        refine ⟨.agg vs', run_build w t qs vs' ?_, vs', rfl, h7, h8⟩
        simp only [Program.built, hi1, hu, hi4, hp1]
        exact h6
      · cases h
    · rename_i n e hk
      rw [hk] at hkd
      simp only [kdOk] at hkd
      split at h
      · rename_i ei hei
        split at h
        · rename_i cs hf
          cases h
          obtain ⟨ii, _, g1, g2, _⟩ := (hT _ _ hei).info
          obtain ⟨vs', h6, h7, h8⟩ := fill_rel (place' := fun j => some (j * ei.size, ei.size)) (fun j x hx => hx) hf hq hi6 hz
          refine ⟨.agg vs', run_build w t qs vs' ?_, vs', rfl, h7, h8⟩
          simp only [Program.built, hi1, hkd, hi4, g1, g2]
          exact h6
        · cases h
      · cases h
    · cases h
  · cases h
end
end Go.Proofs.Ytgfeohklkinccaa.Pe
set_option linter.unusedVariables false
namespace Go.Proofs.Ytgfeohklkinccaa.Pe
open Go.RowKit
open Go.Proofs.Ytgfeohklkinccaa.B (run_append_keep own_prefix lt_of_blk add_at)
section
variable {P : Program} {T : Tys} {t : TypeId} {ti : TI} {ρ : Ren} {H : Heap} {w w' : World} {a : Act}
/-- A renaming turned at one block. -/
def turn (ρ : Ren) (n : Nat) (rv : Nat → Value) : Ren := fun id k => if id = n then rv k else ρ id k
theorem turn_same (ρ : Ren) (n : Nat) (rv : Nat → Value) (k : Nat) : turn ρ n rv n k = rv k := by simp [turn]
theorem turn_other (ρ : Ren) (n : Nat) (rv : Nat → Value) {id : Nat} (h : id ≠ n) (k : Nat) : turn ρ n rv id k = ρ id k := by simp [turn, h]
theorem push_later (rv : Nat → Value) (b : Bk) : Later ρ H (turn ρ H.length rv) (H ++ [b]) := by
  refine ⟨fun id k ⟨b', hb, _⟩ => turn_other _ _ _ (fun e => ?_) k, fun id k ⟨b', hb, hk⟩ => ⟨b', ?_, hk⟩⟩
  · have := (List.getElem?_eq_some_iff.1 hb).1
    omega
  · rw [List.getElem?_append_left (List.getElem?_eq_some_iff.1 hb).1]
    exact hb
theorem get_push {b b' : Bk} {id : Nat} (h : (H ++ [b])[id]? = some b') : (H[id]? = some b' ∧ id ≠ H.length) ∨ (id = H.length ∧ b' = b) := by
  by_cases hi : id < H.length
  · rw [List.getElem?_append_left hi] at h
    exact .inl ⟨h, by omega⟩
  · have h1 := (List.getElem?_eq_some_iff.1 h).1
    have : id = H.length := by simp at h1; omega
    subst this
    simp at h
    exact .inr ⟨rfl, h.symm⟩
/-- A new block. -/
theorem step_push {b : Bk} {rv : Nat → Value} (hH : HRel ρ H w) (hB : Below w.heap.size w w') (hb : BRel (turn ρ H.length rv) (H ++ [b]) H.length b w') (ho : ∀ g, Occ (turn ρ H.length rv) H.length b g → w.heap.size ≤ g) : Step ρ H w (turn ρ H.length rv) (H ++ [b]) w' := by
  have hl := push_later (ρ := ρ) (H := H) rv b
  have old : ∀ (id : Nat) b', H[id]? = some b' → BRel (turn ρ H.length rv) (H ++ [b]) id b' w' := fun id b' h =>
    ((hH.blk id b' h).keep hB.size (fun g hg _ => hB.block g hg)).later h hl
  have occ : ∀ (id : Nat) b' g, H[id]? = some b' → Occ (turn ρ H.length rv) id b' g → Occ ρ id b' g ∧ g < w.heap.size := fun id b' g h h2 => by
    have h3 := (Occ.later h hl).1 h2
    exact ⟨h3, Occ.lt (hH.blk id b' h) h3⟩
  refine ⟨⟨fun id b' h => ?_, fun i j bi bj g hij hi hj hw h1 h2 => ?_⟩, hl.agree, fun id b' h => ⟨b', ?_, Nat.le_refl _, fun _ => rfl⟩, ⟨hB.os, hB.tape, hB.output, hB.size, fun g hg _ => hB.block g hg⟩, fun id b' g h h1 => ?_⟩
  · rcases get_push h with ⟨h, _⟩ | ⟨rfl, rfl⟩
    · exact old id b' h
    · exact hb
  · rcases get_push hi with ⟨ki, _⟩ | ⟨ei, fi⟩ <;> rcases get_push hj with ⟨kj, _⟩ | ⟨ej, fj⟩
    · exact hH.dis i j bi bj g hij ki kj hw (occ i bi g ki h1).1 (occ j bj g kj h2).1
    · subst ej; subst fj; have := (occ i bi g ki h1).2; have := ho g h2; omega
    · subst ei; subst fi; have := (occ j bj g kj h2).2; have := ho g h1; omega
    · exact hij (ei.trans ej.symm)
  · rw [List.getElem?_append_left (List.getElem?_eq_some_iff.1 h).1]; exact h
  · rcases get_push h with ⟨h, _⟩ | ⟨rfl, rfl⟩
    · exact .inr ⟨b', h, (occ id b' g h h1).1⟩
    · exact .inl (ho g h1)
theorem get_set {b1 b' : Bk} {id i : Nat} (h : (H.set id b1)[i]? = some b') : (H[i]? = some b' ∧ i ≠ id) ∨ (i = id ∧ b' = b1 ∧ id < H.length) := by
  rw [List.getElem?_set] at h
  split at h
  · rename_i e
    split at h
    · cases h; exact .inr ⟨e.symm, rfl, by assumption⟩
    · cases h
  · rename_i e
    exact .inl ⟨h, fun e' => e e'.symm⟩
/-- One block turned. -/
theorem step_set {b0 b1 : Bk} {id : Nat} {rv : Nat → Value} (hH : HRel ρ H w) (h0 : H[id]? = some b0) (hw0 : b0.wr = true) (hgb : b0.gb ≤ b1.gb) (hrv : ∀ k, k < b0.gb → rv k = ρ id k)
    (os : w'.os = w.os) (tp : w'.tape = w.tape) (out : w'.output = w.output) (sz : w.heap.size ≤ w'.heap.size) (hk : ∀ g, g < w.heap.size → ¬ Occ ρ id b0 g → w'.heap[g]? = w.heap[g]?)
    (hb : BRel (turn ρ id rv) (H.set id b1) id b1 w') (ho : ∀ g, Occ (turn ρ id rv) id b1 g → w.heap.size ≤ g ∨ Occ ρ id b0 g) : Step ρ H w (turn ρ id rv) (H.set id b1) w' := by
  have hlt : id < H.length := (List.getElem?_eq_some_iff.1 h0).1
  have hself : (H.set id b1)[id]? = some b1 := by simp [hlt]
  have hl : Later ρ H (turn ρ id rv) (H.set id b1) := by
    refine ⟨fun i k ⟨b, kb, kk⟩ => ?_, fun i k ⟨b, kb, kk⟩ => ?_⟩
    · by_cases e : i = id
      · subst e
        rw [h0] at kb; cases kb
        rw [turn_same, hrv k kk]
      · exact turn_other _ _ _ e k
    · by_cases e : i = id
      · subst e
        rw [h0] at kb; cases kb
        exact ⟨b1, hself, Nat.lt_of_lt_of_le kk hgb⟩
      · exact ⟨b, by rw [List.getElem?_set_ne (fun h => e h.symm)]; exact kb, kk⟩
  have occ : ∀ (i : Nat) b' g, i ≠ id → H[i]? = some b' → Occ (turn ρ id rv) i b' g → Occ ρ i b' g ∧ g < w.heap.size := fun i b' g hi h h2 => by
    have h3 := (Occ.later h hl).1 h2
    exact ⟨h3, Occ.lt (hH.blk i b' h) h3⟩
  have old : ∀ (i : Nat) b', i ≠ id → H[i]? = some b' → BRel (turn ρ id rv) (H.set id b1) i b' w' := fun i b' hi h =>
    ((hH.blk i b' h).keep sz (fun g hg h3 => hk g hg (fun h4 => hH.dis id i b0 b' g (fun e => hi e.symm) h0 h hw0 h4 h3))).later h hl
  refine ⟨⟨fun i b' h => ?_, fun i j bi bj g hij hi hj hw h1 h2 => ?_⟩, hl.agree, fun i b' h => ?_, ⟨os, tp, out, sz, fun g hg hn => hk g hg (hn id b0 h0 hw0)⟩, fun i b' g h h1 => ?_⟩
  · rcases get_set h with ⟨h, hi⟩ | ⟨rfl, rfl, _⟩
    · exact old i b' hi h
    · exact hb
  · rcases get_set hi with ⟨ki, ni⟩ | ⟨ei, fi, _⟩ <;> rcases get_set hj with ⟨kj, nj⟩ | ⟨ej, fj, _⟩
    · exact hH.dis i j bi bj g hij ki kj hw (occ i bi g ni ki h1).1 (occ j bj g nj kj h2).1
    · subst ej; subst fj
      have h3 := occ i bi g ni ki h1
      rcases ho g h2 with h4 | h4
      · omega
      · exact hH.dis i j bi b0 g hij ki h0 hw h3.1 h4
    · subst ei; subst fi
      have h3 := occ j bj g nj kj h2
      rcases ho g h1 with h4 | h4
      · omega
      · exact hH.dis i j b0 bj g hij h0 kj hw0 h4 h3.1
    · exact hij (ei.trans ej.symm)
  · by_cases e : i = id
    · subst e
      rw [h0] at h; cases h
      exact ⟨b1, hself, hgb, fun h => by rw [hw0] at h; cases h⟩
    · exact ⟨b', by rw [List.getElem?_set_ne (fun h => e h.symm)]; exact h, Nat.le_refl _, fun _ => rfl⟩
  · rcases get_set h with ⟨h, hi⟩ | ⟨rfl, rfl, _⟩
    · exact .inr ⟨b', h, (occ i b' g hi h h1).1⟩
    · rcases ho g h1 with h4 | h4
      · exact .inl h4
      · exact .inr ⟨b0, h0, h4⟩
theorem turn_self (ρ : Ren) (id : Nat) : turn ρ id (ρ id) = ρ := by
  funext i k
  simp only [turn]
  split
  · rename_i e; rw [e]
  · rfl
/-! ### new variables and rows -/
theorem Gb_push (b : Bk) (k : Nat) (hk : k < b.gb) : Gb (H ++ [b]) H.length k := ⟨b, by simp, hk⟩
theorem alloc_var {cs : List C} {vs : Array Value} {ty : TypeId} {m : Nat} (hH : HRel ρ H w) (hm : cs.length = m) (hc : Cels ρ H cs vs.toList) :
    ∃ ρ', VRel ρ' (appL H [.var true m cs]) (.c (.p H.length 0)) (.pointer (some ⟨w.heap.size, 0, none⟩)) ∧ Step ρ H w ρ' (appL H [.var true m cs]) (w.alloc (.cells vs ty)) := by
  rw [appL_eq]
  refine ⟨turn ρ H.length (fun _ => .pointer (some ⟨w.heap.size, 0, none⟩)), ⟨Gb_push _ _ Nat.zero_lt_one, ⟨w.heap.size, 0, none⟩, turn_same _ _ _ _, by rw [add_zero]⟩, step_push hH (B.b1 w _) ?_ ?_⟩
  · exact ⟨hm, w.heap.size, ty, vs, turn_same _ _ _ _, heap_alloc_new w _, hc.later (push_later _ _)⟩
  · rintro g ⟨o, h⟩
    rw [turn_same] at h
    injection h with h; injection h with h; injection h with h
    omega
theorem own_new {vs : Array Value} {n sz : Nat} {e : TypeId} (hn : n ≤ 140737488355328) (hs : vs.size = n * sz) : (w.alloc (.cells vs e)).ownsRow 0 e sz (.slice (some ⟨w.heap.size, 0, none⟩) n n) n vs.toList := by
  refine ⟨by simpa using hs, .inr ⟨w.heap.size, n, vs, rfl, Nat.zero_le _, heap_alloc_new w _, Nat.le_refl _, by simp only [maxLen]; omega, hs, ?_⟩⟩
  rw [List.take_of_length_le (by simp; omega)]
/-- A new row, all of it known. -/
theorem alloc_row {cs : List C} {vs : List Value} {v : Value} {n sz : Nat} {e : TypeId} (hH : HRel ρ H w) (hB : Below w.heap.size w w') (hsz : 0 < sz) (hn : n ≤ 140737488355328) (hl : cs.length = n * sz) (hc : Cels ρ H cs vs) (ho : w'.ownsRow 0 e sz v n vs) (hv : ∀ g, v.ownBlock = some g → w.heap.size ≤ g) :
    ∃ ρ', VRel ρ' (appL H [.row true cs n n sz e]) (.c (.sl H.length 0 n n)) v ∧ Step ρ H w ρ' (appL H [.row true cs n n sz e]) w' := by
  rw [appL_eq]
  refine ⟨turn ρ H.length (fun _ => v), ⟨Gb_push _ _ (Nat.lt_succ_self _), Nat.le_refl _, ?_⟩, step_push hH hB ?_ ?_⟩
  · rcases ho.2 with ⟨rfl, h0⟩ | ⟨g, cap, cur, rfl, _, _, h1, _⟩
    · subst h0
      exact ⟨none, 0, rfl, Nat.le_refl _, fun _ _ => by rw [turn_same], fun h => by omega⟩
    · exact ⟨_, cap, rfl, h1, fun _ _ => by rw [turn_same], fun _ => ⟨_, _, _, turn_same _ _ _ _, by rw [add_zero]⟩⟩
  · refine ⟨hsz, hl, ⟨hn, Nat.le_refl _⟩, fun k h1 h2 => ?_⟩
    have : k = n := by omega
    subst this
    refine ⟨vs, ?_, by rw [turn_same]; exact ho⟩
    rw [← hl, List.take_length]
    exact hc.later (push_later _ _)
  · rintro g ⟨k, _, _, h⟩
    rw [turn_same] at h
    exact hv g h
theorem many_eq (n : Nat) (z : List C) : many n z = (List.replicate n z).flatten := by
  induction n with
  | zero => rfl
  | succ n ih =>
    show appL z (many n z) = _
    rw [appL_eq, ih, List.replicate_succ, List.flatten_cons]
theorem flatten_get {α : Type} (z : List α) : ∀ (n i : Nat), i < n * z.length → (List.replicate n z).flatten[i]? = z[i % z.length]?
  | 0, i, h => by omega
  | n + 1, i, h => by
    rw [List.replicate_succ, List.flatten_cons]
    by_cases hi : i < z.length
    · rw [List.getElem?_append_left hi, Nat.mod_eq_of_lt hi]
    · rw [List.getElem?_append_right (by omega), flatten_get z n (i - z.length) (by rw [Nat.succ_mul] at h; omega), ← Nat.mod_eq_sub_mod (by omega)]
theorem many_rel {z : List C} {vs : Array Value} {n : Nat} (h : Cels ρ H z vs.toList) (hz : 0 < z.length) : Cels ρ H (many n z) ((Array.range (n * z.length)).map (vs[· % vs.size]!)).toList := by
  have hs : vs.size = z.length := by have := h.1; simpa using this.symm
  rw [many_eq]
  refine ⟨by simp, fun i x y hx hy => ?_⟩
  have hi : i < n * z.length := by
    have := (List.getElem?_eq_some_iff.1 hx).1
    simpa using this
  rw [flatten_get z n i hi] at hx
  have hm : i % z.length < z.length := Nat.mod_lt _ hz
  simp only [Array.toList_map, Array.toList_range, List.getElem?_map, List.getElem?_range hi, Option.map_some, Option.some.injEq] at hy
  subst hy
  refine h.2 (i % z.length) x _ hx ?_
  rw [hs, getElem!_pos vs (i % z.length) (by omega)]
  simp [hs, hm]
theorem alloc_rel {r : V × Heap} (hT : TabOk P T) (hH : HRel ρ H w) (h : (match tyAt T t with
    | some ti => some (V.c (.p H.length 0), appL H [.var true ti.size ti.zero])
    | none => none) = some r) : ∃ cv ρ' w', (Instr.alloc t true (.tuple #[])).run P w = .ok cv w' ∧ VRel ρ' r.2 r.1 cv ∧ Step ρ H w ρ' r.2 w' := by
  split at h
  · rename_i ti hti
    cases h
    obtain ⟨i, z, h1, h2, h3, h4, h5, h6⟩ := (hT _ _ hti).info
    obtain ⟨ρ', h7, h8⟩ := alloc_var (ty := t) hH h6 (cellsOf_rel h5)
    exact ⟨_, ρ', _, by simp [Instr.alloc, zeroValue, typeInfo, h1, h4, newVar, newRow], h7, h8⟩
  · cases h
theorem box_rel {r : V × Heap} {x : V} {u : Value} (hH : HRel ρ H w) (hx : VRel ρ H x u) (h : (match x.cells with
    | some (n, cs) => some (V.c (.p H.length 0), appL H [.var true n cs])
    | none => none) = some r) : ∃ cv ρ' w', (Instr.box t u).run P w = .ok cv w' ∧ VRel ρ' r.2 r.1 cv ∧ Step ρ H w ρ' r.2 w' := by
  split at h
  · rename_i n cs hc
    cases h
    obtain ⟨h1, h2⟩ := cells_rel hc hx
    obtain ⟨ρ', h7, h8⟩ := alloc_var (ty := t) hH h1 h2
    exact ⟨_, ρ', _, by simp [Instr.box, newVar, newRow], h7, h8⟩
  · cases h
theorem vbuildSlice_rel {n : Nat} {ps : List (Nat × V)} {qs : Array (Nat × Value)} {r : V × Heap} (hT : TabOk P T) (hH : HRel ρ H w) (h : vbuildSlice T H t n ps = some r) (hq : All2 (fun (x : Nat × V) (y : Nat × Value) => x.1 = y.1 ∧ VRel ρ H x.2 y.2) ps qs.toList) :
    ∃ cv ρ' w', (Instr.buildSlice t n qs).run P w = .ok cv w' ∧ VRel ρ' r.2 r.1 cv ∧ Step ρ H w ρ' r.2 w' := by
  unfold vbuildSlice at h
  split at h
  · rename_i e s1 s2 s3 s4 hti
    have hu := (hT _ _ hti).kd
    simp only [kdOk] at hu
    split at h
    · rename_i ei hei
      obtain ⟨hc, h⟩ := bif_some h
      simp only [Bool.and_eq_true] at hc
      have c0 := ble_nat hc.1.1
      have c1 := ble_nat hc.1.2
      have c2 := ble_nat hc.2
      split at h
      · rename_i cs hf
        cases h
        obtain ⟨i, z, h1, h2, h3, h4, h5, h6⟩ := (hT _ _ hei).info
        have hz : Cels ρ H ei.zero z.cells.toList := cellsOf_rel h5
        have hmz := many_rel (n := n) hz (by omega)
        have hml : (many n ei.zero).length = n * ei.size := by rw [many_eq]; simp [h6]
        obtain ⟨vs', g1, g2, g3⟩ := fill_rel (place' := fun j => some (j * ei.size, ei.size)) (fun j x hx => hx) hf hq hml hmz
        have hsz : vs'.size = n * ei.size := by have := g3.1; rw [g2] at this; simpa using this.symm
        have hpos : 0 < n * ei.size := Nat.mul_pos c0 c1
        have hn : n ≤ 140737488355328 := by
          have : n ≤ n * ei.size := Nat.le_mul_of_pos_right _ c1
          omega
        obtain ⟨ρ', k1, k2⟩ := alloc_row (e := e) (v := .slice (some ⟨w.heap.size, 0, none⟩) n n) hH (B.b1 w (.cells vs' e)) c1 hn g2 g3 (own_new hn hsz) (fun g hg => by simp [Value.ownBlock] at hg; omega)
        refine ⟨_, ρ', _, run_buildSlice w t e n qs vs' i z hu h1 h4 (by rw [h2]; omega) (by rw [h2]; omega) ?_, k1, k2⟩
        rw [h2, ← h6]
        rw [h6] at hmz ⊢
        rw [h6] at g1
        exact g1
      · cases h
    · cases h
  · cases h
theorem vmakeSlice_rel {l c : V} {u v : Value} {r : V × Heap} (hT : TabOk P T) (hH : HRel ρ H w) (h : vmakeSlice T H t l c = some r) (hl : VRel ρ H l u) (hc : VRel ρ H c v) :
    ∃ cv ρ' w', (Instr.makeSlice t u v).run P w = .ok cv w' ∧ VRel ρ' r.2 r.1 cv ∧ Step ρ H w ρ' r.2 w' := by
  unfold vmakeSlice at h
  split at h
  · rename_i e s1 s2 s3 s4 k1 l k2 c hti
    have hu := (hT _ _ hti).kd
    simp only [kdOk] at hu
    simp only [VRel, CRel] at hl hc
    subst hl; subst hc
    split at h
    · rename_i ei hei
      obtain ⟨hq, h⟩ := bif_some h
      cases h
      simp only [Bool.and_eq_true, eqI_eq, leI_eq, beq_iff_eq, decide_eq_true_eq] at hq
      obtain ⟨⟨⟨⟨rfl, q1⟩, q2⟩, q3⟩, q4⟩ := hq
      have q2 := ble_nat q2
      have q3 := ble_nat q3
      have q4 := ble_nat q4
      obtain ⟨i, z, h1, h2, h3, h4, h5, h6⟩ := (hT _ _ hei).info
      have hz : Cels ρ H ei.zero z.cells.toList := cellsOf_rel h5
      have hmz := many_rel (n := l.toNat) hz (by omega)
      have hml : (many l.toNat ei.zero).length = l.toNat * ei.size := by rw [many_eq]; simp [h6]
      have hn : l.toNat ≤ 140737488355328 := by
        have : l.toNat ≤ l.toNat * ei.bytes := Nat.le_mul_of_pos_right _ q4
        omega
      have hl2 : (l : Int) = (l.toNat : Int) := by omega
      have hb2 : (i.bytes : Int) * l ≤ 281474976710656 := by
        rw [hl2, h3, ← Int.natCast_mul, Nat.mul_comm]
        omega
      rw [h6] at hmz
      have hsz2 : (madeCells z.cells (l.toNat * i.size)).size = l.toNat * ei.size := by rw [size_madeCells, h2]
      obtain ⟨ρ', k3, k4⟩ := alloc_row (e := e) (v := .slice (some ⟨w.heap.size, 0, none⟩) l.toNat l.toNat) hH (B.b1 w (.cells (madeCells z.cells (l.toNat * i.size)) e)) q3 hn hml (by rw [h2]; exact hmz) (own_new hn hsz2) (fun g hg => by simp [Value.ownBlock] at hg; omega)
      exact ⟨_, ρ', _, run_make w t e i z hu h1 h4 k1 k2 l l q1 (Int.le_refl _) hb2 (by omega), k3, k4⟩
    · cases h
  · cases h
end
end Go.Proofs.Ytgfeohklkinccaa.Pe
set_option linter.unusedVariables false
namespace Go.Proofs.Ytgfeohklkinccaa.Pe
open Go.RowKit
open Go.Proofs.Ytgfeohklkinccaa.B (run_append_keep own_prefix lt_of_blk add_at)
section
variable {P : Program} {T : Tys} {t : TypeId} {ti : TI} {ρ : Ren} {H : Heap} {w w' : World} {a : Act}
theorem take_splice {α : Type} (xs ys : List α) (o m : Nat) (h : o + ys.length ≤ m) (hm : m ≤ xs.length) : (xs.take o ++ ys ++ xs.drop (o + ys.length)).take m = (xs.take m).take o ++ ys ++ (xs.take m).drop (o + ys.length) := by
  have h1 : (xs.take o ++ ys).length = o + ys.length := by simp; omega
  rw [List.take_append, List.take_of_length_le (by omega), h1, List.take_take, Nat.min_eq_left (by omega), List.drop_take]
/-- Cells written at a place. -/
theorem wrAt_rel {x : C} {n : Nat} {ys : List C} {H' : Heap} {v : Value} {vs : List Value} (h : wrAt H x n ys = some H') (hH : HRel ρ H w) (hv : CRel ρ H x v) (hy : Cels ρ H ys vs) (hl : ys.length = n) :
    ∃ ad w', v = .pointer (some ad) ∧ (storeCells ad vs).run P w = .ok () w' ∧ Step ρ H w ρ H' w' := by
  have hvl : vs.length = n := hy.1.symm.trans hl
  cases x <;> simp only [wrAt, reduceCtorEq, getL_eq] at h
  case p id off =>
    obtain ⟨_, ad, e, rfl⟩ := hv
    split at h
    · rename_i m cells hb
      split at h
      · rename_i cs' hs
        obtain ⟨h', hlt⟩ := setL_some _ _ _ _ h
        subst h'
        obtain ⟨hm, g, ty, cur, h1, h2, h3⟩ := hH.blk _ _ hb
        rw [e] at h1
        injection h1 with h1; injection h1 with h1
        subst h1
        obtain ⟨s1, s2, s3⟩ := splice_some hs hm hl
        have hc : cur.size = m := by have := h3.1; rw [hm] at this; simpa using this.symm
        have hrun := run_storeCells_at P g off ty vs 0 cur w h2 (by omega) hy.ones
        simp only [Nat.add_zero] at hrun
        refine ⟨_, _, rfl, by rw [add_at, Nat.zero_add]; exact hrun, ?_⟩
        have hst := step_set (b1 := .var true m cs') (rv := ρ id) (w' := w.setRow g (cur.toList.take off ++ vs ++ cur.toList.drop (off + vs.length)).toArray) hH hb rfl (Nat.le_refl _) (fun _ _ => rfl) rfl rfl rfl (by simp [World.setRow]) (fun g' _ hn => setRow_other w g g' _ (fun e' => hn ⟨0, by rw [e, e']⟩)) ?_ ?_
        · rw [turn_self] at hst
          exact hst
        · rw [turn_self]
          have hlater : Later ρ H ρ (H.set id (.var true m cs')) := ⟨fun _ _ _ => rfl, fun i k ⟨b, kb, kk⟩ => by
            by_cases ei : i = id
            · subst ei
              rw [hb] at kb; cases kb
              exact ⟨.var true m cs', by simp [hlt], kk⟩
            · exact ⟨b, by rw [List.getElem?_set_ne (fun h => ei h.symm)]; exact kb, kk⟩⟩
          refine ⟨s3, g, ty, _, e, setRow_heap w g _ _ ty _ h2, ?_⟩
          rw [hvl]
          exact (Cels.splice hs hm hl h3 hy).later hlater
        · intro g' ho
          rw [turn_self] at ho
          exact .inr ho
      · cases h
    · cases h
  case q id off gen =>
    obtain ⟨hgb, ad, k0, c, e, rfl⟩ := hv
    split at h
    · rename_i cells k lo sz ty hb
      obtain ⟨hg, h⟩ := bif_some h
      have hg := beq_nat hg
      subst hg
      split at h
      · rename_i cs' hs
        obtain ⟨h', hlt⟩ := setL_some _ _ _ _ h
        subst h'
        obtain ⟨hsz, hm, ⟨hn, hlo⟩, hall⟩ := hH.blk _ _ hb
        obtain ⟨xs, h3, h4, h5⟩ := hall gen hlo (Nat.le_refl _)
        rw [← hm, List.take_length] at h3
        obtain ⟨s1, s2, s3⟩ := splice_some hs hm hl
        rcases h5 with ⟨h5, _⟩ | ⟨g, cap, cur, h5, hbg, hgg, hnc, hcm, hcs, htake⟩
        · rw [e] at h5; cases h5
        · have e2 := h5
          rw [e] at h5
          injection h5 with h5 _ _
          injection h5 with h5
          subst h5
          have hcap : gen * sz ≤ cur.size := by rw [hcs]; exact Nat.mul_le_mul_right _ hnc
          have hrun := run_storeCells_at P g off ty vs 0 cur w hgg (by omega) hy.ones
          simp only [Nat.add_zero] at hrun
          refine ⟨_, _, rfl, by rw [add_at, Nat.zero_add]; exact hrun, ?_⟩
          have hst := step_set (b1 := .row true cs' gen gen sz ty) (rv := ρ id) (w' := w.setRow g (cur.toList.take off ++ vs ++ cur.toList.drop (off + vs.length)).toArray) hH hb rfl (Nat.le_refl _) (fun _ _ => rfl) rfl rfl rfl (by simp [World.setRow]) (fun g' _ hn' => setRow_other w g g' _ (fun e' => hn' ⟨gen, hlo, Nat.le_refl _, by rw [e, e']; rfl⟩)) ?_ ?_
          · rw [turn_self] at hst
            exact hst
          · rw [turn_self]
            have hlater : Later ρ H ρ (H.set id (.row true cs' gen gen sz ty)) := ⟨fun _ _ _ => rfl, fun i k ⟨b, kb, kk⟩ => by
              by_cases ei : i = id
              · subst ei
                rw [hb] at kb; cases kb
                exact ⟨.row true cs' gen gen sz ty, by simp [hlt], kk⟩
              · exact ⟨b, by rw [List.getElem?_set_ne (fun h => ei h.symm)]; exact kb, kk⟩⟩
            refine ⟨hsz, s3, ⟨hn, Nat.le_refl _⟩, fun k hk1 hk2 => ?_⟩
            have : k = gen := by omega
            subst this
            refine ⟨xs.take off ++ vs ++ xs.drop (off + n), ?_, ?_, .inr ⟨g, cap, _, e2, Nat.zero_le _, setRow_heap w g _ _ ty _ hgg, hnc, hcm, ?_, ?_⟩⟩
            · rw [← s3, List.take_length]
              exact (Cels.splice hs hm hl h3 hy).later hlater
            · have := (Cels.splice hs hm hl h3 hy).1
              rw [s3] at this
              exact this.symm
            · simp only [List.size_toArray, List.length_append, List.length_take, List.length_drop, Array.length_toList]
              omega
            · rw [take_splice _ _ _ _ (by omega) (by simpa using hcap), htake, hvl]
          · intro g' ho
            rw [turn_self] at ho
            obtain ⟨k, k1, k2, k3⟩ := ho
            exact .inr ⟨k, by omega, k2, k3⟩
      · cases h
    · cases h
theorem vstore_rel {x y : V} {u v : Value} {H' : Heap} (hT : TabOk P T) (h : vstore T H t x y = some H') (hH : HRel ρ H w) (hx : VRel ρ H x u) (hy : VRel ρ H y v) :
    ∃ w', (Instr.storeAt t u v).run P w = .ok () w' ∧ Step ρ H w ρ H' w' := by
  unfold vstore at h
  split at h
  · rename_i a n ys ti hc hti
    obtain ⟨hn, h⟩ := bif_some h
    have hn := beq_nat hn
    obtain ⟨h1, h2⟩ := cells_rel hc hy
    obtain ⟨ad, w', rfl, h3, h4⟩ := wrAt_rel (P := P) h hH hx h2 h1
    have hsz : v.cells.size = ti.size := by have := h2.1; simp at this; omega
    refine ⟨w', ?_, h4⟩
    simp only [Instr.storeAt, Instr.sureAddr, storeVar, Sem.run_bind, Sem.run_pure, Result.andThen_ok, (hT _ _ hti).size, hsz, ne_eq, not_true_eq_false, if_false, h3]
  · cases h
end
end Go.Proofs.Ytgfeohklkinccaa.Pe
set_option linter.unusedVariables false
namespace Go.Proofs.Ytgfeohklkinccaa.Pe
open Go.RowKit
open Go.Proofs.Ytgfeohklkinccaa.B (run_append_keep own_prefix lt_of_blk add_at)
section
variable {P : Program} {T : Tys} {t : TypeId} {ti : TI} {ρ : Ren} {H : Heap} {w w' : World} {a : Act}
theorem rdSl_rel {x : C} {sz m : Nat} {cs : List C} {v : Value} (h : rdSl H x sz = some (m, cs)) (hH : HRel ρ H w) (hv : CRel ρ H x v) :
    ∃ A c, v = .slice A m c ∧ m ≤ c ∧ cs.length = m * sz ∧ (m = 0 ∨ 0 < m ∧ ∃ ad vs, A = some ad ∧ Cels ρ H cs vs ∧ Lies w ad vs) := by
  cases x <;> simp only [rdSl, reduceCtorEq, Option.some.injEq, Prod.mk.injEq] at h
  case ns =>
    obtain ⟨rfl, rfl⟩ := h
    simp only [CRel] at hv
    exact ⟨none, 0, hv, Nat.le_refl _, by simp, .inl rfl⟩
  case sl id off len gen =>
    obtain ⟨g, hlg, A, c, rfl, hlc, hf, ha⟩ := hv
    cases hz : Nat.beq len 0 with
    | true =>
      simp only [hz, cond_true, Option.some.injEq, Prod.mk.injEq] at h
      have hz := beq_nat hz
      obtain ⟨rfl, rfl⟩ := h
      subst hz
      exact ⟨A, c, rfl, by omega, by simp, .inl rfl⟩
    | false =>
      simp only [hz, cond_false] at h
      have hz' : len ≠ 0 := fun e => by rw [e] at hz; simp at hz
      split at h
      · rename_i cs' hr
        simp only [Option.some.injEq, Prod.mk.injEq] at h
        obtain ⟨rfl, rfl⟩ := h
        obtain ⟨ad, n, c', e, rfl⟩ := ha (by omega)
        obtain ⟨ad', vs, h1, h2, h3, h4⟩ := rdAt_rel hr hH (v := .pointer (some (ad.add off))) ⟨g, ad, n, c', e, rfl⟩
        injection h1 with h1; injection h1 with h1
        subst h1
        exact ⟨_, c, rfl, hlc, h2, .inr ⟨by omega, _, vs, rfl, h3, h4⟩⟩
      · cases h
  case va id off len cap =>
    obtain ⟨g, A, rfl, hlc, ha⟩ := hv
    cases hz : Nat.beq len 0 with
    | true =>
      simp only [hz, cond_true, Option.some.injEq, Prod.mk.injEq] at h
      have hz := beq_nat hz
      obtain ⟨rfl, rfl⟩ := h
      subst hz
      exact ⟨A, cap, rfl, by omega, by simp, .inl rfl⟩
    | false =>
      simp only [hz, cond_false] at h
      have hz' : len ≠ 0 := fun e => by rw [e] at hz; simp at hz
      split at h
      · rename_i cs' hr
        simp only [Option.some.injEq, Prod.mk.injEq] at h
        obtain ⟨rfl, rfl⟩ := h
        obtain ⟨ad, e, rfl⟩ := ha (by omega)
        obtain ⟨ad', vs, h1, h2, h3, h4⟩ := rdAt_rel hr hH (v := .pointer (some (ad.add off))) ⟨g, ad, e, rfl⟩
        injection h1 with h1; injection h1 with h1
        subst h1
        exact ⟨_, cap, rfl, hlc, h2, .inr ⟨by omega, _, vs, rfl, h3, h4⟩⟩
      · cases h
  case vr id off len cap gen =>
    obtain ⟨g, A, rfl, hlc, ha⟩ := hv
    cases hz : Nat.beq len 0 with
    | true =>
      simp only [hz, cond_true, Option.some.injEq, Prod.mk.injEq] at h
      have hz := beq_nat hz
      obtain ⟨rfl, rfl⟩ := h
      subst hz
      exact ⟨A, cap, rfl, by omega, by simp, .inl rfl⟩
    | false =>
      simp only [hz, cond_false] at h
      have hz' : len ≠ 0 := fun e => by rw [e] at hz; simp at hz
      split at h
      · rename_i cs' hr
        simp only [Option.some.injEq, Prod.mk.injEq] at h
        obtain ⟨rfl, rfl⟩ := h
        obtain ⟨ad, n, c', e, rfl⟩ := ha (by omega)
        obtain ⟨ad', vs, h1, h2, h3, h4⟩ := rdAt_rel hr hH (v := .pointer (some (ad.add off))) ⟨g, ad, n, c', e, rfl⟩
        injection h1 with h1; injection h1 with h1
        subst h1
        exact ⟨_, cap, rfl, hlc, h2, .inr ⟨by omega, _, vs, rfl, h3, h4⟩⟩
      · cases h
theorem run_append_zero {e : TypeId} {i : TypeInfo} {ty : TypeId} (ht : P.underlying t = some (.slice e)) (hi : P.info? e = some i) (A B : Option Addr) (n cap c : Nat) (hn : n ≤ cap) (w : World) :
    (Builtin.append_ #[t, t] ty #[.slice B n cap, .slice A 0 c]).run P w = .ok (.slice B n cap) w := by
  cases A <;> cases B <;> simp [Builtin.append_, run_underlying ht, sizeOf, typeInfo, hi, Builtin.lenOf, Builtin.firstCells, loadCells, loadCellsFrom, hn, storeCells]
theorem own_same {e : TypeId} {sz k : Nat} {u : Value} {zs : List Value} (h : w.ownsRow 0 e sz u k zs) (hs : ∀ g, g < w.heap.size → u.ownBlock = some g → w'.heap[g]? = w.heap[g]?) : w'.ownsRow 0 e sz u k zs := by
  refine ⟨h.1, ?_⟩
  rcases h.2 with h1 | ⟨g, cap, cur, h1, h2, h3, r⟩
  · exact .inl h1
  · exact .inr ⟨g, cap, cur, h1, h2, (hs g (lt_of_blk h3) (by rw [h1]; rfl)).trans h3, r⟩
/-- What an append leaves of a row and of all others. -/
theorem append_row (t ty e : TypeId) (i : TypeInfo) (z : Value) (sz : Nat) (ht : P.underlying t = some (.slice e)) (hi : P.info? e = some i) (hz : i.zero = some z)
    (hsize : i.size = sz) (hzs : z.cells.size = sz) (hsz : 0 < sz)
    {v : Value} {n : Nat} {xs : List Value} (hown : w.ownsRow 0 e sz v n xs)
    (a : Addr) (m c : Nat) (news : List Value) (hl : news.length = m * sz) (hnews : Lies w a news) (h1 : ∀ u ∈ news, u.oneCell' = true)
    (h63 : n + m ≤ maxLen) (hbytes : (n + m) * i.bytes ≤ 140737488355328) :
    ∃ v' w', (Builtin.append_ #[t, t] ty #[v, .slice (some a) m c]).run P w = .ok v' w' ∧ w'.ownsRow 0 e sz v' (n + m) (xs ++ news) ∧ w.grownBy w' v.ownBlock ∧ (v'.ownBlock = v.ownBlock ∨ v'.ownBlock = some w.heap.size) ∧
      ∀ u k zs, k ≤ n → w.ownsRow 0 e sz u k zs → w'.ownsRow 0 e sz u k zs := by
  obtain ⟨v', w', hr, h2, h3, h4, h5⟩ := run_append_own_at (P := P) w 0 t ty e i z sz i.bytes ht hi hz hsize rfl hzs hsz v n xs hown a m c news hl hnews h1 h63 hbytes (Nat.zero_le _)
  refine ⟨v', w', hr, h2, h3, h5, fun u k zs hk hu => ?_⟩
  have hsmall : n + m ≤ 9223372036854775807 := by simp only [maxLen] at h63; omega
  rcases hown.2 with ⟨rfl, rfl⟩ | ⟨g, cap, cur, rfl, hbg, hg, hnc, hcm, hcs, htake⟩
  · exact own_same hu (fun g hg _ => h3.block g hg (by simp [Value.ownBlock]))
  · by_cases hroom : n + m ≤ cap
    · obtain ⟨w2, hr2, ho2, _⟩ := run_append_fits (P := P) w 0 t ty e i sz ht hi hsize g n cap xs hown a m c news hl hnews h1 hroom
      rw [hr2] at hr
      injection hr with e1 e2
      subst e1; subst e2
      by_cases hug : u.ownBlock = some g
      · rcases hu.2 with ⟨rfl, rfl⟩ | ⟨g', cap', cur', rfl, q2, q3, q4, q5, q6, q7⟩
        · simp [Value.ownBlock] at hug
        · have : g' = g := by simpa [Value.ownBlock] using hug
          subst this
          rw [hg] at q3
          injection q3 with q3; injection q3 with q3
          subst q3
          have hcc : cap' = cap := Nat.eq_of_mul_eq_mul_right hsz (q6.symm.trans hcs)
          subst hcc
          rcases ho2.2 with ⟨h, _⟩ | ⟨g2, cap2, cur2, r1, r2, r3, r4, r5, r6, r7⟩
          · cases h
          · injection r1 with r1 r1b r1c
            injection r1 with r1; injection r1 with r1
            subst r1; subst r1c
            refine ⟨hu.1, .inr ⟨g', cap', cur2, rfl, Nat.zero_le _, r3, q4, q5, r6, ?_⟩⟩
            have hkn : k * sz ≤ n * sz := Nat.mul_le_mul_right _ hk
            have hkm : k * sz ≤ (n + m) * sz := Nat.mul_le_mul_right _ (by omega)
            have h6 := congrArg (List.take (k * sz)) r7
            rw [List.take_take, Nat.min_eq_left hkm, List.take_append_of_le_length (by rw [hown.1]; exact hkn), ← htake, List.take_take, Nat.min_eq_left hkn] at h6
            rw [h6]; exact q7
      · exact own_same hu (fun g' hg' he => h3.block g' hg' (by rw [← he]; exact hug))
    · subst hsize
      have holds : ∀ j u, xs[j]? = some u → w.cell? ((⟨g, 0, none⟩ : Addr).add j) = some u := hown.cells (g := g) rfl
      have hr2 := run_append_grow (P := P) w t ty e i z ht hi hz ⟨g, 0, none⟩ n cap xs hown.1 holds a m c news hl hnews (by omega) (by omega) (growslice_fits (by omega) hbytes)
      rw [hr2] at hr
      injection hr with e1 e2
      subst e2
      exact own_same hu (fun g' hg' _ => heap_alloc_old w.drew _ hg')
/-- A row's slice, cut at k. -/
def cutS (v : Value) (k : Nat) : Value := match v with
  | .slice A _ c => .slice A k c
  | v => v
theorem own_cut {e : TypeId} {sz n k : Nat} {v : Value} {xs : List Value} (h : w.ownsRow 0 e sz v n xs) (hk : k ≤ n) (hn : 0 < n) : w.ownsRow 0 e sz (cutS v k) k (xs.take (k * sz)) ∧ (cutS v k).ownBlock = v.ownBlock := by
  rcases h.2 with ⟨rfl, rfl⟩ | ⟨g, cap, cur, rfl, h1, h2, h3, h4, h5, h6⟩
  · omega
  · have hkn : k * sz ≤ n * sz := Nat.mul_le_mul_right _ hk
    refine ⟨⟨by rw [List.length_take, h.1]; omega, .inr ⟨g, cap, cur, rfl, h1, h2, by omega, h4, h5, ?_⟩⟩, rfl⟩
    rw [← h6, List.take_take, Nat.min_eq_left hkn]
theorem vappend_rel {t2 ty : TypeId} {s x : V} {u v : Value} {r : V × Heap} (hT : TabOk P T) (hH : HRel ρ H w) (h : vappend T H t t2 s x = some r) (hs : VRel ρ H s u) (hx : VRel ρ H x v) :
    ∃ cv ρ' w', (Builtin.append_ #[t, t2] ty #[u, v]).run P w = .ok cv w' ∧ VRel ρ' r.2 r.1 cv ∧ Step ρ H w ρ' r.2 w' := by
  unfold vappend at h
  split at h
  rotate_left
  · cases h
  rename_i e s1 s2 s3 s4 t2i s x hti ht2
  have hu := (hT _ _ hti).kd
  simp only [kdOk] at hu
  split at h
  · cases h
  rotate_left
  · cases h
  rename_i ei hei hkd
  cases htt : Nat.beq t t2 with
  | false => simp [htt] at h
  | true =>
  have htt' := beq_nat htt
  subst htt'
  simp only [htt, Bool.not_true, cond_false] at h
  split at h
  rotate_left
  · cases h
  rename_i m new hr
  have hc := (bif_some h).1
  replace h := (bif_some h).2
  simp only [Bool.and_eq_true] at hc
  have c1 := ble_nat hc.1
  have c2 := ble_nat hc.2
  obtain ⟨i, z, i1, i2, i3, i4, i5, i6⟩ := (hT _ _ hei).info
  have hz : Cels ρ H ei.zero z.cells.toList := cellsOf_rel i5
  have hzs : z.cells.size = ei.size := by have := hz.1; rw [i6] at this; simpa using this.symm
  obtain ⟨A, c, rfl, hmc, hnl, hlie⟩ := rdSl_rel hr hH hx
  have lim : ∀ k, k * ei.bytes ≤ 140737488355328 → k ≤ 140737488355328 := fun k hk => Nat.le_trans (Nat.le_mul_of_pos_right _ c2) hk
  split at h
  · -- onto nothing
    have hb := (bif_some h).1
    replace h := (bif_some h).2
    have hb := ble_nat hb
    cases h
    simp only [VRel, CRel] at hs
    subst hs
    rcases hlie with rfl | ⟨hm0, ad, vs, rfl, h3, h4⟩
    · have hnew : new = [] := List.eq_nil_of_length_eq_zero (by rw [hnl]; simp)
      subst hnew
      obtain ⟨ρ', k1, k2⟩ := alloc_row (e := e) (v := .slice none 0 0) (vs := []) hH (Below.refl _ _) c1 (Nat.zero_le _) (by simp) All2.nil (World.ownsRow_nil w 0 e ei.size) (fun g hg => by simp [Value.ownBlock] at hg)
      exact ⟨_, ρ', w, run_append_zero hu i1 A none 0 0 c (Nat.le_refl _) w, k1, k2⟩
    · have hvl : vs.length = m * ei.size := h3.1.symm.trans hnl
      obtain ⟨v', w', q1, q2, q3, q4, _⟩ := append_row (P := P) (w := w) t ty e i z ei.size hu i1 i4 i2 hzs c1 (v := .slice none 0 0) (n := 0) (xs := []) (World.ownsRow_nil w 0 e ei.size) ad m c vs hvl h4 h3.ones (by simp only [maxLen]; have := lim m hb; omega) (by rw [i3]; simpa using hb)
      simp only [Nat.zero_add, List.nil_append] at q2
      obtain ⟨ρ', k1, k2⟩ := alloc_row (w' := w') (e := e) hH ⟨q3.os, q3.tape, q3.output, q3.size, fun g hg => q3.block g hg (by simp [Value.ownBlock])⟩ c1 (lim m hb) hnl h3 q2 (fun g hg => by
        rcases q4 with q4 | q4
        · rw [q4] at hg; simp [Value.ownBlock] at hg
        · rw [q4] at hg; injection hg with hg; omega)
      exact ⟨_, ρ', w', q1, k1, k2⟩
  · -- onto a row
    rename_i id off len gen
    split at h
    rotate_left
    · cases h
    rename_i cs n lo sz e' hb
    rw [getL_eq] at hb
    have hq := (bif_some h).1
    replace h := (bif_some h).2
    simp only [Bool.and_eq_true] at hq
    obtain ⟨⟨⟨⟨⟨p1, p2⟩, p3⟩, p4⟩, p5⟩, p6⟩ := hq
    have p1 := beq_nat p1
    have p2 := beq_nat p2
    have p3 := beq_nat p3
    have p4 := beq_nat p4
    have p5 := beq_nat p5
    have p6 := ble_nat p6
    subst p1; subst p2; subst p3; subst p4; subst p5
    split at h
    rotate_left
    · cases h
    rename_i H' hset
    cases h
    obtain ⟨hset, hlt⟩ := setL_some _ _ _ _ hset
    subst hset
    rw [appL_eq]
    obtain ⟨hgb, hlg, A2, c3, rfl, hlc, hfull, hadr⟩ := hs
    have hfull := hfull rfl rfl
    obtain ⟨hsz, hm, ⟨hn, hlo⟩, hall⟩ := hH.blk _ _ hb
    obtain ⟨xs, h3, h4⟩ := hall gen hlo (Nat.le_refl _)
    rw [← hm, List.take_length] at h3
    rw [← hfull] at h4
    rcases hlie with rfl | ⟨hm0, ad, vs, rfl, g3, g4⟩
    · have hnew : new = [] := List.eq_nil_of_length_eq_zero (by rw [hnl]; simp)
      subst hnew
      have hself : H.set id (.row true (cs ++ []) (gen + 0) lo ei.size e') = H := by
        rw [List.append_nil, Nat.add_zero]
        have := (List.getElem?_eq_some_iff.1 hb).2
        rw [← this]
        exact List.set_getElem_self hlt
      refine ⟨_, ρ, w, run_append_zero hu i1 A A2 gen c3 c hlc w, ?_, ?_⟩
      · show VRel ρ (H.set id _) _ _
        rw [hself]
        exact ⟨hgb, Nat.le_refl _, A2, c3, rfl, hlc, fun _ _ => hfull, hadr⟩
      · show Step ρ H w ρ (H.set id _) w
        rw [hself]
        exact Step.refl hH
    · have hvl : vs.length = m * ei.size := g3.1.symm.trans hnl
      obtain ⟨v', w', q1, q2, q3, q4, q5⟩ := append_row (P := P) (w := w) t ty e' i z ei.size hu i1 i4 i2 hzs c1 h4 ad m c vs hvl g4 g3.ones (by simp only [maxLen]; have := lim _ p6; omega) (by rw [i3]; exact p6)
      have hbn := lim _ p6
      have hcut : cutS v' (gen + m) = v' := by
        rcases q2.2 with ⟨rfl, h0⟩ | ⟨g, cap, cur, rfl, _⟩
        · omega
        · rfl
      have hown : (cs ++ new).length = (gen + m) * ei.size := by rw [List.length_append, hm, hnl, Nat.add_mul]
      have hlater : Later ρ H (turn ρ id (fun k => if k ≤ gen then ρ id k else cutS v' k)) (H.set id (.row true (cs ++ new) (gen + m) lo ei.size e')) := by
        refine ⟨fun i k ⟨b, kb, kk⟩ => ?_, fun i k ⟨b, kb, kk⟩ => ?_⟩
        · by_cases ei' : i = id
          · subst ei'
            rw [hb] at kb; cases kb
            rw [turn_same]
            exact if_pos (Nat.le_of_lt_succ kk)
          · exact turn_other _ _ _ ei' k
        · by_cases ei' : i = id
          · subst ei'
            rw [hb] at kb; cases kb
            refine ⟨.row true (cs ++ new) (gen + m) lo ei.size e', by simp [hlt], ?_⟩
            have kk : k < gen + 1 := kk
            show k < gen + m + 1
            omega
          · exact ⟨b, by rw [List.getElem?_set_ne (fun h => ei' h.symm)]; exact kb, kk⟩
      have hrvn : (if gen + m ≤ gen then ρ id (gen + m) else cutS v' (gen + m)) = v' := by rw [if_neg (by omega), hcut]
      refine ⟨v', turn ρ id (fun k => if k ≤ gen then ρ id k else cutS v' k), w', q1, ?_, ?_⟩
      · refine ⟨⟨.row true (cs ++ new) (gen + m) lo ei.size e', by simp [hlt], Nat.lt_succ_self _⟩, Nat.le_refl _, ?_⟩
        rcases q2.2 with ⟨rfl, h0⟩ | ⟨g, cap, cur, rfl, _, _, k1, _⟩
        · omega
        · exact ⟨_, cap, rfl, k1, fun _ _ => by rw [turn_same]; exact hrvn.symm, fun _ => ⟨_, _, _, by rw [turn_same]; exact hrvn, by rw [add_zero]⟩⟩
      · refine step_set (b1 := .row true (cs ++ new) (gen + m) lo ei.size e') hH hb rfl (by show gen + 1 ≤ gen + m + 1; omega) (fun k hk => if_pos (Nat.le_of_lt_succ hk)) q3.os q3.tape q3.output q3.size (fun g hg hno => q3.block g hg (fun e0 => hno ⟨gen, hlo, Nat.le_refl _, by rw [← hfull]; exact e0.symm⟩)) ⟨c1, hown, ⟨hbn, by omega⟩, fun k k1 k2 => ?_⟩ (fun g hg => ?_)
        · rw [turn_same]
          by_cases hk : k ≤ gen
          · obtain ⟨zs, z1, z2⟩ := hall k k1 hk
            refine ⟨zs, ?_, by rw [if_pos hk]; exact q5 _ k zs hk z2⟩
            rw [List.take_append_of_le_length (by rw [hm]; exact Nat.mul_le_mul_right _ hk)]
            exact z1.later hlater
          · have hc := own_cut q2 k2 (by omega)
            refine ⟨_, ?_, by rw [if_neg hk]; exact hc.1⟩
            exact Cels.later ((h3.append g3).take _) hlater
        · obtain ⟨k, k1, k2, k3⟩ := hg
          rw [turn_same] at k3
          by_cases hk : k ≤ gen
          · rw [if_pos hk] at k3
            exact .inr ⟨k, k1, hk, k3⟩
          · rw [if_neg hk, (own_cut q2 k2 (by omega)).2] at k3
            rcases q4 with q4 | q4
            · rw [q4] at k3
              exact .inr ⟨gen, hlo, Nat.le_refl _, by rw [← hfull]; exact k3⟩
            · rw [q4] at k3
              injection k3 with k3
              exact .inl (by omega)
  · -- onto an array's slice
    rename_i id off len cap
    have hq := (bif_some h).1
    replace h := (bif_some h).2
    simp only [Bool.and_eq_true] at hq
    obtain ⟨⟨⟨p1, p2⟩, p3⟩, p4⟩ := hq
    have p1 := beq_nat p1
    have p2 := ble_nat p2
    have p3 := ble_nat p3
    have p4 := ble_nat p4
    subst p1
    split at h
    rotate_left
    · cases h
    rename_i old hold
    cases h
    obtain ⟨g, A2, rfl, hlc, ha⟩ := hs
    obtain ⟨ad2, e2, rfl⟩ := ha (by omega)
    obtain ⟨ad', ovs, h1, h2, h3, h4⟩ := rdAt_rel hold hH (v := .pointer (some (ad2.add off))) ⟨g, ad2, e2, rfl⟩
    injection h1 with h1; injection h1 with h1
    subst h1
    rcases hlie with rfl | ⟨hm0, ad, vs, rfl, g3, g4⟩
    · omega
    have hvl : vs.length = m * i.size := by rw [i2]; exact g3.1.symm.trans hnl
    have hol : ovs.length = len * i.size := by rw [i2]; exact h3.1.symm.trans h2
    have hbn := lim _ p4
    have hr := run_append_grow (P := P) w t ty e i z hu i1 i4 (ad2.add off) len len ovs hol h4 ad m c vs hvl g4 (by omega) (by omega) (growslice_fits (by omega) (by rw [i3]; exact p4))
    have hge := grownCap_ge w (len + m) len e
    have hcm : grownCap w (len + m) len e ≤ maxLen := grownCap_le_maxLen w (len + m) len e (by simp only [maxLen]; omega)
    have hown : (w.drew.alloc (.cells (ovs.toArray ++ vs.toArray ++ Builtin.zeroCells z.cells (grownCap w (len + m) len e - (len + m))) e)).ownsRow 0 e ei.size (.slice (some ⟨w.heap.size, 0, none⟩) (len + m) (grownCap w (len + m) len e)) (len + m) (ovs ++ vs) := by
      have hlen : (ovs ++ vs).length = (len + m) * ei.size := by rw [List.length_append, hol, hvl, ← Nat.add_mul, i2]
      refine ⟨hlen, .inr ⟨w.heap.size, _, _, rfl, Nat.zero_le _, heap_alloc_new w.drew _, hge, hcm, ?_, ?_⟩⟩
      · simp only [Array.size_append, List.size_toArray, size_zeroCells, hzs, hol, hvl, i2, ← Nat.add_mul]
        congr 1
        omega
      · simp only [Array.toList_append, List.append_assoc]
        rw [← List.append_assoc, ← hlen]
        exact List.take_left
    rw [appL_eq old new]
    obtain ⟨ρ', k1, k2⟩ := alloc_row (w' := w.drew.alloc (.cells (ovs.toArray ++ vs.toArray ++ Builtin.zeroCells z.cells (grownCap w (len + m) len e - (len + m))) e)) (cs := old ++ new) hH ⟨rfl, rfl, rfl, by simp, fun k hk => heap_alloc_old w.drew _ hk⟩ c1 hbn (by rw [List.length_append, h2, hnl, Nat.add_mul]) (h3.append g3) hown (fun g hg => by simp [Value.ownBlock] at hg; omega)
    exact ⟨_, ρ', _, hr, k1, k2⟩
  · cases h
end
end Go.Proofs.Ytgfeohklkinccaa.Pe
set_option linter.unusedVariables false
namespace Go.Proofs.Ytgfeohklkinccaa.Pe
open Go.RowKit
open Go.Proofs.Ytgfeohklkinccaa.B (lt_of_blk add_at)
section
variable {P : Program} {T : Tys} {t : TypeId} {ti : TI} {ρ : Ren} {H : Heap} {w w' : World} {a : Act}
theorem Lies.take {ad : Addr} {vs : List Value} (h : Lies w ad vs) (n : Nat) : Lies w ad (vs.take n) := by
  have := h.sub 0 n
  rwa [add_zero, List.drop_zero] at this
theorem vcopy_rel {t2 ty : TypeId} {d x : V} {u v : Value} {r : V × Heap} (hT : TabOk P T) (hH : HRel ρ H w) (h : vcopy T H t d x = some r) (hd : VRel ρ H d u) (hx : VRel ρ H x v) :
    ∃ cv ρ' w', (Builtin.copy_ #[t, t2] ty #[u, v]).run P w = .ok cv w' ∧ VRel ρ' r.2 r.1 cv ∧ Step ρ H w ρ' r.2 w' := by
  unfold vcopy at h
  split at h
  rotate_left
  · cases h
  rename_i e s1 s2 s3 s4 d x hti
  have hu := (hT _ _ hti).kd
  simp only [kdOk] at hu
  split at h
  rotate_left
  · cases h
  rename_i ei hei
  split at h
  rotate_left
  · cases h
  rename_i m new hr
  have hc := ble_nat (bif_some h).1
  replace h := (bif_some h).2
  obtain ⟨A, c, rfl, hmc, hnl, hlie⟩ := rdSl_rel hr hH hx
  split at h
  rotate_left
  · cases h
  rename_i pl len hpl
  -- where it goes
  have hd' : ∃ B c2, u = .slice B len c2 ∧ (0 < len → ∃ ad, B = some ad ∧ CRel ρ H pl (.pointer (some ad))) := by
    split at hpl
    · simp only [Option.some.injEq, Prod.mk.injEq] at hpl
      obtain ⟨rfl, rfl⟩ := hpl
      obtain ⟨g, B, rfl, hlc, ha⟩ := hd
      refine ⟨B, _, rfl, fun h0 => ?_⟩
      obtain ⟨ad, e1, rfl⟩ := ha (by omega)
      exact ⟨_, rfl, g, ad, e1, rfl⟩
    · simp only [Option.some.injEq, Prod.mk.injEq] at hpl
      obtain ⟨rfl, rfl⟩ := hpl
      obtain ⟨g, B, rfl, hlc, ha⟩ := hd
      refine ⟨B, _, rfl, fun h0 => ?_⟩
      obtain ⟨ad, n, c', e1, rfl⟩ := ha (by omega)
      exact ⟨_, rfl, g, ad, n, c', e1, rfl⟩
    · simp only [Option.some.injEq, Prod.mk.injEq] at hpl
      obtain ⟨rfl, rfl⟩ := hpl
      obtain ⟨g, hlg, B, c2, rfl, hlc, hf, ha⟩ := hd
      refine ⟨B, c2, rfl, fun h0 => ?_⟩
      obtain ⟨ad, n, c', e1, rfl⟩ := ha (by omega)
      exact ⟨_, rfl, g, ad, n, c', e1, rfl⟩
    · cases hpl
  obtain ⟨B, c2, rfl, hB⟩ := hd'
  cases hz : Nat.beq (Nat.min m len) 0 with
  | true =>
    simp only [hz, cond_true, Option.some.injEq] at h
    cases h
    have hz := beq_nat hz
    refine ⟨.int .i64 0, ρ, w, ?_, rfl, Step.refl hH⟩
    cases A <;> cases B <;> simp [Builtin.copy_, run_underlying hu, Builtin.lenOf, Builtin.firstCells, (hT _ _ hei).size, hz, loadCells, loadCellsFrom, storeCells, goInt]
  | false =>
    simp only [hz, cond_false] at h
    have hz' : Nat.min m len ≠ 0 := fun e => by rw [e] at hz; simp at hz
    have hm : 0 < m ∧ 0 < len := by
      have h1 := Nat.min_le_left m len
      have h2 := Nat.min_le_right m len
      have : 0 < Nat.min m len := by omega
      exact ⟨Nat.lt_of_lt_of_le this h1, Nat.lt_of_lt_of_le this h2⟩
    obtain ⟨ad, rfl, hpv⟩ := hB hm.2
    rcases hlie with rfl | ⟨_, ad2, vs, rfl, h3, h4⟩
    · omega
    split at h
    rotate_left
    · cases h
    rename_i ys hys
    obtain ⟨y1, y2⟩ := takeL_some _ _ _ hys
    split at h
    rotate_left
    · cases h
    rename_i H' hw
    cases h
    have hyl : ys.length = Nat.min m len * ei.size := by rw [y1, List.length_take]; omega
    have hyr : Cels ρ H ys (vs.take (Nat.min m len * ei.size)) := by rw [y1]; exact h3.take _
    obtain ⟨ad', w', h5, h6, h7⟩ := wrAt_rel (P := P) hw hH hpv hyr hyl
    injection h5 with h5; injection h5 with h5
    subst h5
    have hvl : (vs.take (Nat.min m len * ei.size)).length = Nat.min m len * ei.size := hyr.1.symm.trans hyl
    refine ⟨goInt (Nat.min m len : Nat), ρ, w', ?_, rfl, h7⟩
    simp [Builtin.copy_, run_underlying hu, Builtin.lenOf, Builtin.firstCells, (hT _ _ hei).size, run_cells (h4.take _) hvl, h6]
theorem allU8_cons (c : C) (cs : List C) : allU8 (c :: cs) = (match c with
      | .i .u8 n => match allU8 cs with
        | some l => some (UInt8.ofNat n.toNat :: l)
        | none => none
      | _ => none) := rfl
theorem allU8_some : ∀ {cs : List C} {l : List UInt8} {vs : List Value}, allU8 cs = some l → Cels ρ H cs vs → ∃ xs : List Int, vs = xs.map (Value.int .u8) ∧ l = xs.map fun n => UInt8.ofNat n.toNat
  | [], l, vs, h, hc => by
    cases h
    obtain rfl : vs = [] := List.eq_nil_of_length_eq_zero hc.1.symm
    exact ⟨[], rfl, rfl⟩
  | c :: cs, l, [], h, hc => by have := hc.1; simp at this
  | c :: cs, l, v :: vs, h, hc => by
    rw [allU8_cons] at h
    split at h
    · rename_i n
      split at h
      · rename_i l' hl
        cases h
        obtain ⟨xs, e1, e2⟩ := allU8_some (vs := vs) hl ⟨by simpa using hc.1, fun i x y a b => hc.2 (i + 1) x y (by simpa using a) (by simpa using b)⟩
        have hv := (hc.2 0 _ _ rfl rfl).2
        simp only [CRel] at hv
        exact ⟨n :: xs, by rw [e1, hv]; rfl, by rw [e2]; rfl⟩
      · cases h
    · cases h
theorem bytesC_rel (l : List UInt8) : Cels ρ H (bytesC l) (l.map fun b => Value.int .u8 b.toNat) := by
  refine ⟨by simp [bytesC], fun i x y hx hy => ?_⟩
  simp only [bytesC, List.getElem?_map, Option.map_eq_some_iff] at hx hy
  obtain ⟨b, h1, rfl⟩ := hx
  obtain ⟨b', h2, rfl⟩ := hy
  rw [h1] at h2; cases h2
  exact ⟨by simp, rfl⟩
theorem vconvert_rel {src dst : TypeId} {x : V} {u : Value} {r : V × Heap} (hT : TabOk P T) (hH : HRel ρ H w) (h : vconvert T H src dst x = some r) (hx : VRel ρ H x u) :
    ∃ cv ρ' w', (convert src dst u).run P w = .ok cv w' ∧ VRel ρ' r.2 r.1 cv ∧ Step ρ H w ρ' r.2 w' := by
  unfold vconvert at h
  split at h
  · rename_i k1 s1 s2 s3 s4 k s5 s6 s7 s8 k2 n hs hd
    cases h
    have h1 := (hT _ _ hs).kd
    have h2 := (hT _ _ hd).kd
    simp only [kdOk] at h1 h2
    simp only [VRel, CRel] at hx
    subst hx
    exact ⟨.int k (k.wrap n), ρ, w, by simp [convert, run_underlying h1, run_underlying h2, Conv.intToInt], by simp [VRel, CRel, wrapQ_eq], Step.refl hH⟩
  · rename_i s1 s2 s3 s4 s5 s6 s7 s8 l hs hd
    cases h
    have h1 := (hT _ _ hs).kd
    have h2 := (hT _ _ hd).kd
    simp only [kdOk] at h1 h2
    simp only [VRel, CRel] at hx
    subst hx
    exact ⟨_, ρ, w, by simp [convert, run_underlying h1, run_underlying h2], rfl, Step.refl hH⟩
  · rename_i s1 s2 s3 s4 e s5 s6 s7 s8 l hs hd
    have h1 := (hT _ _ hs).kd
    have h2 := (hT _ _ hd).kd
    simp only [kdOk] at h1 h2
    simp only [VRel, CRel] at hx
    subst hx
    split at h
    rotate_left
    · cases h
    rename_i s9 s10 s11 s12 he
    have h3 := (hT _ _ he).kd
    simp only [kdOk] at h3
    have hc := ble_nat (bif_some h).1
    replace h := (bif_some h).2
    cases h
    rw [appL_eq]
    have hsz : (⟨l.toArray⟩ : ByteArray).size = l.length := by simp [ByteArray.size]
    have hge := grownCap_ge w l.length 0 e
    have hrun := run_bytes_of_string (P := P) w src dst e ⟨l.toArray⟩ h1 h2 h3
    rw [hsz] at hrun
    refine ⟨_, turn ρ H.length (fun _ => .slice (some ⟨w.heap.size, 0, none⟩) l.length (grownCap w l.length 0 e)), _, hrun, ⟨Gb_push _ _ (Nat.lt_succ_self _), Nat.le_refl _, _, _, rfl, hge, fun _ _ => by rw [turn_same], fun _ => ⟨_, _, _, turn_same _ _ _ _, by rw [add_zero]⟩⟩, step_push hH ⟨rfl, rfl, rfl, by simp, fun k hk => heap_alloc_old w.drew _ hk⟩ ?_ ?_⟩
    · refine ⟨by simp [bytesC], hc, _, _, turn_same _ _ _ _, hge, fun _ => ⟨⟨w.heap.size, 0, none⟩, _, rfl, (bytesC_rel l).later (push_later _ _), fun j u hu => ?_, by simp⟩⟩
      rw [add_at, Nat.zero_add]
      have hcell := World.cell?_alloc_mark w.drew (bytesRow ⟨l.toArray⟩ (grownCap w l.length 0 e)) e ((bytesRow ⟨l.toArray⟩ (grownCap w l.length 0 e)).size, (bytesRow ⟨l.toArray⟩ (grownCap w l.length 0 e)).size + 1) j
      refine Eq.trans hcell ?_
      have hj : j < l.length := by have := (List.getElem?_eq_some_iff.1 hu).1; simpa using this
      simp only [bytesRow]
      rw [Array.getElem?_append_left (by simpa using hj)]
      simpa using hu
    · rintro g ⟨_, hg⟩
      rw [turn_same] at hg
      simp [Value.ownBlock] at hg
      omega
  · rename_i e s1 s2 s3 s4 e' s5 s6 s7 s8 id off len gen hs hd
    have h1 := (hT _ _ hs).kd
    have h2 := (hT _ _ hd).kd
    simp only [kdOk] at h1 h2
    split at h
    rotate_left
    · cases h
    rename_i s9 s10 s11 s12 he
    have h3 := (hT _ _ he).kd
    simp only [kdOk] at h3
    have hq := (bif_some h).1
    replace h := (bif_some h).2
    simp only [Bool.and_eq_true] at hq
    obtain ⟨⟨⟨⟨p1, p2⟩, p3⟩, p4⟩, p5⟩ := hq
    have p1 := beq_nat p1
    have p2 := beq_nat p2
    have p3 := ble_nat p3
    have p4 := beq_nat p4
    have p5 := beq_nat p5
    subst p1; subst p2; subst p4; subst p5
    split at h
    rotate_left
    · cases h
    rename_i cs n lo sz ty hb
    rw [getL_eq] at hb
    have p6 := beq_nat (bif_some h).1
    replace h := (bif_some h).2
    subst p6
    split at h
    rotate_left
    · cases h
    rename_i H' hset
    cases h
    obtain ⟨hset, hlt⟩ := setL_some _ _ _ _ hset
    subst hset
    obtain ⟨hgb, _, A, c, rfl, hlc, hfull, hadr⟩ := hx
    have hfull := hfull rfl rfl
    obtain ⟨hsz, hm, ⟨hn, hlo⟩, hall⟩ := hH.blk _ _ hb
    obtain ⟨xs, h4, h5⟩ := hall gen hlo (Nat.le_refl _)
    rw [← hm, List.take_length] at h4
    have hown := h5
    rcases h5.2 with ⟨_, h0⟩ | ⟨g, cap, cur, e1, e2, e3, e4⟩
    · omega
    have e5 := hfull.trans e1
    injection e5 with e5 e6 e7
    subst e5; subst e7
    have hsh : w.shape? g = some (ty, cur.size) := by simp [World.shape?, e3]
    have hfz : (w.freeze ⟨g, cur.size, none⟩ 1).heap[g]? = some (.cells cur ty (cur.size, cur.size + 1)) := by
      simp [World.freeze, Array.getElem?_modify, e3]
    refine ⟨.slice (some ⟨g, 0, none⟩) gen c, ρ, w.freeze ⟨g, cur.size, none⟩ 1, ?_, ?_, ?_⟩
    · simp [convert, run_underlying h1, run_underlying h3, markStringish, hsh]
    · refine ⟨⟨.ror cs gen sz, by simp [hlt], Nat.lt_succ_self _⟩, Nat.le_refl _, _, _, rfl, hlc, fun _ _ => hfull, fun h => ?_⟩
      obtain ⟨ad, n2, c2, q1, q2⟩ := hadr h
      exact ⟨ad, n2, c2, q1, q2⟩
    · have hst := step_set (b1 := .ror cs gen sz) (rv := ρ id) (w' := w.freeze ⟨g, cur.size, none⟩ 1) hH hb rfl (Nat.le_refl _) (fun _ _ => rfl) (by simp [World.freeze]) (by simp [World.freeze]) (by simp [World.freeze]) (by simp [World.freeze]) (fun g' _ hn' => by
        have : g ≠ g' := fun e0 => hn' ⟨gen, hlo, Nat.le_refl _, by rw [e1, ← e0]; rfl⟩
        simp [World.freeze, Array.getElem?_modify, this]) ?_ ?_
      · rw [turn_self] at hst
        exact hst
      · rw [turn_self]
        have hlater : Later ρ H ρ (H.set id (.ror cs gen sz)) := ⟨fun _ _ _ => rfl, fun i k ⟨b, kb, kk⟩ => by
          by_cases ei : i = id
          · subst ei
            rw [hb] at kb; cases kb
            exact ⟨.ror cs gen sz, by simp [hlt], kk⟩
          · exact ⟨b, by rw [List.getElem?_set_ne (fun h => ei h.symm)]; exact kb, kk⟩⟩
        refine ⟨hm, hn, _, _, e1, by omega, fun _ => ⟨_, xs, rfl, h4.later hlater, fun j u hu => ?_, by have := lt_of_blk hfz; exact this⟩⟩
        have := World.ownsRow.cells hown (g := g) (by rw [e1]; rfl) j u hu
        rw [add_at, Nat.zero_add] at this ⊢
        rw [cell_of_row _ g j cur ty _ hfz]
        rw [cell_of_row _ g j cur ty _ e3] at this
        exact this
      · intro g' ho
        rw [turn_self] at ho
        obtain ⟨_, ho⟩ := ho
        exact .inr ⟨gen, hlo, Nat.le_refl _, ho⟩
  · rename_i e s1 s2 s3 s4 s5 s6 s7 s8 x hs hd
    have h1 := (hT _ _ hs).kd
    have h2 := (hT _ _ hd).kd
    simp only [kdOk] at h1 h2
    split at h
    rotate_left
    · cases h
    rename_i s9 s10 s11 s12 he
    have h3 := (hT _ _ he).kd
    simp only [kdOk] at h3
    split at h
    · cases h
    rename_i hns
    split at h
    rotate_left
    · cases h
    rename_i m cs hr
    split at h
    rotate_left
    · cases h
    rename_i l hl
    cases h
    obtain ⟨A, c, rfl, hmc, hnl, hlie⟩ := rdSl_rel hr hH hx
    rw [Nat.mul_one] at hnl
    refine ⟨.string ⟨l.toArray⟩, ρ, w, ?_, rfl, Step.refl hH⟩
    rcases hlie with rfl | ⟨_, ad, vs, rfl, h4, h5⟩
    · have hcs : cs = [] := List.eq_nil_of_length_eq_zero hnl
      subst hcs
      cases hl
      rw [run_convert_bytes_string w src dst e _ 0 c h1 h3 h2]
      cases A <;> simp [Conv.bytesToString, loadCells, loadCellsFrom]
      all_goals rfl
    · obtain ⟨xs, e1, e2⟩ := allU8_some hl h4
      have hvl : vs.length = m := h4.1.symm.trans hnl
      rw [run_convert_bytes_string w src dst e _ m c h1 h3 h2, run_bytesToString w ad m c xs (by rw [← e1]; exact run_cells h5 hvl), foldl_push_bytes]
      rw [e2]
      simp [ByteArray.empty, ByteArray.emptyWithCapacity]
      rfl
  · cases h
end
end Go.Proofs.Ytgfeohklkinccaa.Pe
