/- A plain reading of the model's code: steps with symbolic cells, in memory whose beginning is not known. -/
import Derived.Test.YtgfeohklkinccaaPeSym
set_option linter.unusedVariables false
namespace Go.Proofs.Ytgfeohklkinccaa.Pe
open Go.RowKit
/-! ### functions that write what they are handed are not asked in memory that is only read -/
def frozenB (H : Heap) : Bool := H.all fun b => !b.wr
noncomputable def guardW (W : FuncId → Bool) (call : CallF) : CallF := fun f args H => bif W f && frozenB H then none else call f args H
theorem guardW_ok {P : Program} {W : FuncId → Bool} {call : CallF} (h : CallOk P call) : CallOk P (guardW W call) := by
  intro f args H v H' e
  unfold guardW at e
  cases hb : (W f && frozenB H) with
  | true => rw [hb] at e; cases e
  | false => rw [hb] at e; exact h f args H v H' e
/-- What a seat's evaluator knows ahead: which functions write what they are handed; which calls are known by their results. -/
structure Env where
  wr : FuncId → Bool
  pure : Pure
  hook : FuncId → List V → Heap → Option V
/-- Calls that are known by what they are handed and by what lies in memory, and that change nothing. -/
noncomputable def hookW (g : FuncId → List V → Heap → Option V) (call : CallF) : CallF := fun f args H => match g f args H with
  | some v => some (v, H)
  | none => call f args H
def HookOk (P : Program) (g : FuncId → List V → Heap → Option V) : Prop := ∀ call, CallOk P call → CallOk P (hookW g call)
theorem noHook {P : Program} : HookOk P fun _ _ _ => none := fun call h => h
noncomputable def evW (T : Tys) (F : Fns) (K : Nat) (W : Env) : Nat → CallF
  | 0 => fun _ _ _ => none
  | d + 1 => guardW W.wr (hookW W.hook (ext W.pure (run1 T F K (evW T F K W d))))
theorem evW_ok {P : Program} {T : Tys} (hT : TabOk P T) {F : Fns} {K : Nat} {W : Env} (hF : FnsOk P F) (hm : P.follows .mixedOrders = true) {call0 : CallF} (h0 : CallOk P call0) (hg : PureOk W.pure call0) (hk : HookOk P W.hook) : ∀ d, CallOk P (evW T F K W d)
  | 0 => fun f args H v H' h => by cases h
  | d + 1 => guardW_ok (hk _ (ext_ok h0 hg (run1_ok hT hF hm (evW_ok hT hF hm h0 hg hk d))))
section
variable {T : Tys} {F : Fns} {K : Nat} {W : Env} {d : Nat} {call : CallF}
/-- A function's body. -/
theorem pW_body {f : FuncId} {fn : Func} {c : Code} {args tm : List V} {H : Heap} {Q : V → Heap → Prop} (hW : (W.wr f && frozenB H) = false) (hg : W.pure f args = none) (hf : fnAt F f = some fn) (hc : fn.body = some c) (ht : appL args (List.replicate (fn.ntmps - args.length) (.c .un)) = tm)
    (h : pC T (evW T F K W d) K c ⟨tm, H⟩ fun ex s => (∀ i, ex ≠ .exit i) ∧ ∃ v, res T fn s = some v ∧ Q v s.H) (hh : W.hook f args H = none := by rfl) : pF (evW T F K W (d + 1)) f args H Q := by
  subst ht
  have h2 := pF_body hf hc h
  obtain ⟨v, H', e, q⟩ := h2
  refine ⟨v, H', ?_, q⟩
  show guardW W.wr (hookW W.hook (ext W.pure (run1 T F K (evW T F K W d)))) f args H = _
  unfold guardW hookW ext
  rw [hW, hh, hg]
  exact e
/-- .. in memory whose beginning is not known. -/
theorem pW_fn {f : FuncId} {fn : Func} {c : Code} {args tm : List V} {H : Heap} {Q : V → Heap → Prop} (hW : W.wr f = false) (hg : W.pure f args = none) (hf : fnAt F f = some fn) (hc : fn.body = some c) (ht : appL args (List.replicate (fn.ntmps - args.length) (.c .un)) = tm)
    (h : pC T (evW T F K W d) K c ⟨tm, appL H []⟩ fun ex s => (∀ i, ex ≠ .exit i) ∧ ∃ v, res T fn s = some v ∧ Q v s.H) (hh : W.hook f args H = none := by rfl) : pF (evW T F K W (d + 1)) f args H Q := by
  have e : appL H [] = H := by simp [appL_eq]
  rw [e] at h
  exact pW_body (by rw [hW]; rfl) hg hf hc ht h hh
theorem pF_mono {f : FuncId} {args : List V} {H : Heap} {Q R : V → Heap → Prop} (h : pF call f args H Q) (m : ∀ v H', Q v H' → R v H') : pF call f args H R := by
  obtain ⟨v, H', e, q⟩ := h
  exact ⟨v, H', e, m _ _ q⟩
/-- What a call hands back, memory as it was (but for new blocks). -/
def Ret (H : Heap) (v : V) : V → Heap → Prop := fun u H' => u = v ∧ ∃ N, H' = appL H N
theorem dropL_app {α : Type} (A B : List α) (n : Nat) : dropL (appL A B) (A.length + n) = dropL B n := by
  rw [dropL_eq, dropL_eq, appL_eq]
  simp
theorem dropL_app0 {α : Type} (A B : List α) : dropL (appL A B) A.length = B := by
  rw [dropL_eq, appL_eq]; simp
/-- A call's answer. -/
structure Vc (call : CallF) (f : FuncId) (vs : List V) (H : Heap) (r : V × Heap) : Prop where
  out : vcall call f vs H = some r
theorem vfree {f : FuncId} {args : List V} {H : Heap} {v : V} (h : pF call f args (freeze H) (Ret (freeze H) v)) (hv : v.isFree) : Vc call f args H (v, H) := by
  refine ⟨?_⟩
  obtain ⟨u, H', e, rfl, N, rfl⟩ := h
  unfold vcall
  rw [e]
  simp only [gc, V.refsQ_eq, free_refs hv, List.filter_nil]
/-- A call that the table answers. -/
theorem vtab {f : FuncId} {args : List V} {H : Heap} {v : V} (hW : W.wr f = false) (hg : W.pure f args = some v) (hv : v.isFree) (hh : W.hook f args (freeze H) = none := by rfl) : Vc (evW T F K W (d + 1)) f args H (v, H) := by
  refine vfree ⟨v, freeze H, ?_, rfl, [], by simp [appL_eq]⟩ hv
  show guardW W.wr (hookW W.hook (ext W.pure (run1 T F K (evW T F K W d)))) f args (freeze H) = _
  unfold guardW hookW ext
  rw [hW, hh, hg]
  rfl
/-! ### memory -/
section
variable {H L L' M : Heap} {id j n : Nat} {b : Bk}
theorem getL_own (h : getL L j = some b) : getL (appL H L) (H.length + j) = some b := by
  rw [getL_eq] at h ⊢
  rw [appL_eq, List.getElem?_append_right (by omega)]
  simpa using h
theorem getL_base (h : getL H id = some b) : getL (appL H L) id = some b := by
  rw [getL_eq] at h ⊢
  rw [appL_eq, List.getElem?_append_left (List.getElem?_eq_some_iff.1 h).1]
  exact h
theorem getL_frz (h : getL H id = some b) : getL (freeze H) id = some b.frz := by
  rw [getL_eq] at h ⊢
  rw [freeze_get, h]
  rfl
theorem getL_fown (h : getL L j = some b) : getL (appL (freeze (appL H L)) M) (H.length + j) = some b.frz := getL_base (getL_frz (getL_own h))
theorem getL_new (h : getL M j = some b) (hn : n = H.length + L.length + j) : getL (appL (freeze (appL H L)) M) n = some b := by
  have e : n = (freeze (appL H L)).length + j := by rw [freeze_len, appL_eq]; simp [hn]
  rw [e]
  exact getL_own h
theorem setL_own (h : setL L b j = some L') : setL (appL H L) b (H.length + j) = some (appL H L') := by
  obtain ⟨rfl, hl⟩ := setL_some _ _ _ _ h
  rw [setL_of _ _ _ (by rw [appL_eq]; simp; omega), appL_eq, appL_eq]
  rw [List.set_append, if_neg (by omega)]
  simp
theorem setL_base {H' : Heap} (h : setL H b id = some H') : setL (appL H L) b id = some (appL H' L) := by
  obtain ⟨rfl, hl⟩ := setL_some _ _ _ _ h
  rw [setL_of _ _ _ (by rw [appL_eq]; simp; omega), appL_eq, appL_eq, List.set_append]
  simp [hl]
theorem app_app (h : appL L M = L') : appL (appL H L) M = appL H L' := by
  subst h; simp [appL_eq]
theorem len_app (h : L.length = n) : (appL H L).length = H.length + n := by
  subst h; simp [appL_eq]
theorem appL_nil {α : Type} {l : List α} : appL [] l = l := rfl
theorem appL_cons {α : Type} {x : α} {l m : List α} : appL (x :: l) m = x :: appL l m := rfl
theorem app_nil : appL H [] = H := by simp [appL_eq]
end
/-! ### numbers -/
section
variable {ops l : List Oper} {o : Oper} {op : Op} {tm tm' tt tf : List V} {H H' L L' : Heap} {v : V} {Q : List V → Heap → Prop} {R : Ex → St → Prop} {s : St} {i : Nat} {t : TypeId} {px py : Operand} {z : TypeId} {k : IntKind} {a b : Int}
theorem wrapQ_64 (h1 : -9223372036854775808 ≤ a) (h2 : a ≤ 9223372036854775807) : wrapQ .i64 a = a := by
  rw [wrapQ_eq]; exact wrap_in .i64 a (by simp [IntKind.signed, maxN]; omega) (by simpa [maxN] using h2)
theorem o_add {p} (ho : op = .binOp .add t px py p) (hx : opnd tm px = some (.c (.i .i64 a))) (hy : opnd tm py = some (.c (.i .i64 b))) (h1 : -9223372036854775808 ≤ a + b) (h2 : a + b ≤ 9223372036854775807) : evOp T call op tm H = some (.c (.i .i64 (a + b)), H) := by
  subst ho
  have e : evOp T call (.binOp .add t px py p) tm H = (match opnd tm px, opnd tm py with
    | some x, some y => (vbin T .add t x y).map fun v => (v, H)
    | _, _ => none) := rfl
  rw [e, hx, hy]
  show some (V.c (C.i .i64 (wrapQ .i64 (a + b))), H) = _
  rw [wrapQ_64 h1 h2]
theorem o_sub {p} (ho : op = .binOp .sub t px py p) (hx : opnd tm px = some (.c (.i .i64 a))) (hy : opnd tm py = some (.c (.i .i64 b))) (h1 : -9223372036854775808 ≤ a - b) (h2 : a - b ≤ 9223372036854775807) : evOp T call op tm H = some (.c (.i .i64 (a - b)), H) := by
  subst ho
  have e : evOp T call (.binOp .sub t px py p) tm H = (match opnd tm px, opnd tm py with
    | some x, some y => (vbin T .sub t x y).map fun v => (v, H)
    | _, _ => none) := rfl
  rw [e, hx, hy]
  show some (V.c (C.i .i64 (wrapQ .i64 (a - b))), H) = _
  rw [wrapQ_64 h1 h2]
theorem o_mul {p} (ho : op = .binOp .mul t px py p) (hx : opnd tm px = some (.c (.i .i64 a))) (hy : opnd tm py = some (.c (.i .i64 b))) (h1 : -9223372036854775808 ≤ a * b) (h2 : a * b ≤ 9223372036854775807) : evOp T call op tm H = some (.c (.i .i64 (a * b)), H) := by
  subst ho
  have e : evOp T call (.binOp .mul t px py p) tm H = (match opnd tm px, opnd tm py with
    | some x, some y => (vbin T .mul t x y).map fun v => (v, H)
    | _, _ => none) := rfl
  rw [e, hx, hy]
  show some (V.c (C.i .i64 (wrapQ .i64 (a * b))), H) = _
  rw [wrapQ_64 h1 h2]
/-- A quotient of numbers that are not below nought. -/
theorem o_quo {p} (ho : op = .binOp .quo t px py p) (hx : opnd tm px = some (.c (.i .i64 a))) (hy : opnd tm py = some (.c (.i .i64 b))) (h1 : 0 ≤ a) (h3 : a ≤ 9223372036854775807) (h2 : 0 < b) : evOp T call op tm H = some (.c (.i .i64 (a / b)), H) := by
  subst ho
  have e : evOp T call (.binOp .quo t px py p) tm H = (match opnd tm px, opnd tm py with
    | some x, some y => (vbin T .quo t x y).map fun v => (v, H)
    | _, _ => none) := rfl
  rw [e, hx, hy]
  have e2 : vbin T .quo t (.c (.i .i64 a)) (.c (.i .i64 b)) = (if b = 0 then none else some (V.c (C.i .i64 (wrapQ .i64 (a.tdiv b))))) := by
    simp only [vbin, cint, if_true]
    split <;> rfl
  simp only [e2, if_neg (show ¬ b = 0 by omega), Option.map_some]
  have hd : a / b ≤ a := Int.ediv_le_self _ h1
  have hp : 0 ≤ a / b := Int.ediv_nonneg h1 (by omega)
  rw [Int.tdiv_eq_ediv_of_nonneg h1, wrapQ_64 (by omega) (by omega)]
theorem o_rem {p} (ho : op = .binOp .rem t px py p) (hx : opnd tm px = some (.c (.i k a))) (hy : opnd tm py = some (.c (.i k b))) (h1 : 0 ≤ a) (h2 : 0 < b) : evOp T call op tm H = some (.c (.i k (a % b)), H) := by
  subst ho
  have e : evOp T call (.binOp .rem t px py p) tm H = (match opnd tm px, opnd tm py with
    | some x, some y => (vbin T .rem t x y).map fun v => (v, H)
    | _, _ => none) := rfl
  rw [e, hx, hy]
  have e2 : vbin T .rem t (.c (.i k a)) (.c (.i k b)) = (if b = 0 then none else some (V.c (C.i k (a.tmod b)))) := by
    simp only [vbin, cint, if_true]
    split <;> rfl
  simp only [e2, if_neg (show ¬ b = 0 by omega), Option.map_some]
  rw [Int.tmod_eq_emod_of_nonneg h1]
theorem o_quoK {p} (ho : op = .binOp .quo t px py p) (hx : opnd tm px = some (.c (.i k a))) (hy : opnd tm py = some (.c (.i k b))) (h1 : 0 ≤ a) (h3 : a ≤ maxN k) (h2 : 0 < b) : evOp T call op tm H = some (.c (.i k (a / b)), H) := by
  subst ho
  have e : evOp T call (.binOp .quo t px py p) tm H = (match opnd tm px, opnd tm py with
    | some x, some y => (vbin T .quo t x y).map fun v => (v, H)
    | _, _ => none) := rfl
  rw [e, hx, hy]
  have e2 : vbin T .quo t (.c (.i k a)) (.c (.i k b)) = (if b = 0 then none else some (V.c (C.i k (wrapQ k (a.tdiv b))))) := by
    simp only [vbin, cint, if_true]
    split <;> rfl
  simp only [e2, if_neg (show ¬ b = 0 by omega), Option.map_some]
  have hd : a / b ≤ a := Int.ediv_le_self _ h1
  have hp : 0 ≤ a / b := Int.ediv_nonneg h1 (by omega)
  have hw : wrapQ k (a / b) = a / b := by rw [wrapQ_eq]; exact wrap_in k _ (by split <;> omega) (by omega)
  rw [Int.tdiv_eq_ediv_of_nonneg h1, hw]
theorem o_addK {p} (ho : op = .binOp .add t px py p) (hx : opnd tm px = some (.c (.i k a))) (hy : opnd tm py = some (.c (.i k b))) (h1 : 0 ≤ a + b) (h2 : a + b ≤ maxN k) : evOp T call op tm H = some (.c (.i k (a + b)), H) := by
  subst ho
  have hw : wrapQ k (a + b) = a + b := by rw [wrapQ_eq]; exact wrap_in k _ (by split <;> omega) h2
  simp only [evOp, hx, hy, vbin, if_true, cint, hw, Option.map_some]
theorem o_mulK {p} (ho : op = .binOp .mul t px py p) (hx : opnd tm px = some (.c (.i k a))) (hy : opnd tm py = some (.c (.i k b))) (h1 : 0 ≤ a * b) (h2 : a * b ≤ maxN k) : evOp T call op tm H = some (.c (.i k (a * b)), H) := by
  subst ho
  have hw : wrapQ k (a * b) = a * b := by rw [wrapQ_eq]; exact wrap_in k _ (by split <;> omega) h2
  simp only [evOp, hx, hy, vbin, if_true, cint, hw, Option.map_some]
/-- A test with its two answers. -/
theorem pS_bool {x : Bool} {p q : Prop} (hw : wantedE ops o tm = some true) (h : evOp T call o.op tm H = some (.c (.b x), H')) (hp : putT tm o.dst (.c (.b true)) = some tt) (hq : putT tm o.dst (.c (.b false)) = some tf)
    (h1 : x = true → p) (h2 : x = false → q) (k1 : p → pS T call ops l tt H' Q) (k2 : q → pS T call ops l tf H' Q) : pS T call ops (o :: l) tm H Q :=
  pS_test hw h hp hq (fun e => k1 (h1 e)) (fun e => k2 (h2 e))
section
variable {p : Nat} (hw : wantedE ops o tm = some true) (hx : opnd tm px = some (.c (.i k a))) (hy : opnd tm py = some (.c (.i k b))) (hp : putT tm o.dst (.c (.b true)) = some tt) (hq : putT tm o.dst (.c (.b false)) = some tf)
theorem vcmp {bop : BinOp} {r : C} (h : (match bop with | .shl | .shr => none | _ => cint bop k a b) = some r) : vbin T bop t (.c (.i k a)) (.c (.i k b)) = some (.c r) := by
  cases bop <;> simp_all [vbin]
include hw hx hy hp hq
theorem pS_lss {c} (ho : o.op = .binOp .lss t px py c) (k1 : a < b → pS T call ops l tt H Q) (k2 : b ≤ a → pS T call ops l tf H Q) : pS T call ops (o :: l) tm H Q := by
  refine pS_bool (x := !leI b a) hw ?_ hp hq (fun h => by simpa [leI_eq] using h) (fun h => by simpa [leI_eq] using h) k1 k2
  rw [ho]; simp only [evOp, hx, hy, vcmp (bop := .lss) (show cint .lss k a b = some (.b (!leI b a)) from rfl), Option.map_some]
theorem pS_leq {c} (ho : o.op = .binOp .leq t px py c) (k1 : a ≤ b → pS T call ops l tt H Q) (k2 : b < a → pS T call ops l tf H Q) : pS T call ops (o :: l) tm H Q := by
  refine pS_bool (x := leI a b) hw ?_ hp hq (fun h => by simpa [leI_eq] using h) (fun h => by simpa [leI_eq] using h) k1 k2
  rw [ho]; simp only [evOp, hx, hy, vcmp (bop := .leq) (show cint .leq k a b = some (.b (leI a b)) from rfl), Option.map_some]
theorem pS_gtr {c} (ho : o.op = .binOp .gtr t px py c) (k1 : b < a → pS T call ops l tt H Q) (k2 : a ≤ b → pS T call ops l tf H Q) : pS T call ops (o :: l) tm H Q := by
  refine pS_bool (x := !leI a b) hw ?_ hp hq (fun h => by simpa [leI_eq] using h) (fun h => by simpa [leI_eq] using h) k1 k2
  rw [ho]; simp only [evOp, hx, hy, vcmp (bop := .gtr) (show cint .gtr k a b = some (.b (!leI a b)) from rfl), Option.map_some]
theorem pS_geq {c} (ho : o.op = .binOp .geq t px py c) (k1 : b ≤ a → pS T call ops l tt H Q) (k2 : a < b → pS T call ops l tf H Q) : pS T call ops (o :: l) tm H Q := by
  refine pS_bool (x := leI b a) hw ?_ hp hq (fun h => by simpa [leI_eq] using h) (fun h => by simpa [leI_eq] using h) k1 k2
  rw [ho]; simp only [evOp, hx, hy, vcmp (bop := .geq) (show cint .geq k a b = some (.b (leI b a)) from rfl), Option.map_some]
theorem pS_eql {c} (ho : o.op = .binOp .eql t px py c) (k1 : a = b → pS T call ops l tt H Q) (k2 : a ≠ b → pS T call ops l tf H Q) : pS T call ops (o :: l) tm H Q := by
  refine pS_bool (x := eqI a b) hw ?_ hp hq (fun h => by simpa [eqI_eq] using h) (fun h => by simpa [eqI_eq] using h) k1 k2
  rw [ho]; simp only [evOp, hx, hy, vcmp (bop := .eql) (show cint .eql k a b = some (.b (eqI a b)) from rfl), Option.map_some]
theorem pS_neq {c} (ho : o.op = .binOp .neq t px py c) (k1 : a ≠ b → pS T call ops l tt H Q) (k2 : a = b → pS T call ops l tf H Q) : pS T call ops (o :: l) tm H Q := by
  refine pS_bool (x := !eqI a b) hw ?_ hp hq (fun h => by simpa [eqI_eq] using h) (fun h => by simpa [eqI_eq] using h) k1 k2
  rw [ho]; simp only [evOp, hx, hy, vcmp (bop := .neq) (show cint .neq k a b = some (.b (!eqI a b)) from rfl), Option.map_some]
end
section
variable {xs ys : List UInt8} (hw : wantedE ops o tm = some true) (hx : opnd tm px = some (.c (.s xs))) (hy : opnd tm py = some (.c (.s ys))) (hp : putT tm o.dst (.c (.b true)) = some tt) (hq : putT tm o.dst (.c (.b false)) = some tf)
include hw hx hy hp hq
theorem pS_eqs {c} (ho : o.op = .binOp .eql t px py c) (k1 : xs = ys → pS T call ops l tt H Q) (k2 : xs ≠ ys → pS T call ops l tf H Q) : pS T call ops (o :: l) tm H Q := by
  refine pS_bool (x := xs == ys) hw ?_ hp hq (fun h => by simpa using h) (fun h => by simpa using h) k1 k2
  rw [ho]; simp only [evOp, hx, hy, vbin, cstr, Option.map_some]
theorem pS_nes {c} (ho : o.op = .binOp .neq t px py c) (k1 : xs ≠ ys → pS T call ops l tt H Q) (k2 : xs = ys → pS T call ops l tf H Q) : pS T call ops (o :: l) tm H Q := by
  refine pS_bool (x := !(xs == ys)) hw ?_ hp hq (fun h => by simpa using h) (fun h => by simpa using h) k1 k2
  rw [ho]; simp only [evOp, hx, hy, vbin, cstr, Option.map_some]
end
/-! ### memory, step by step -/
theorem o_alloc {n m bb : Nat} {kd : TK} {zz : List C} {ks : List PK} (ho : op = .alloc t) (ht : tyAt T t = some ⟨kd, m, bb, zz, ks⟩) (hn : L.length = n) (hl : appL L [.var true m zz] = L') : evOp T call op tm (appL H L) = some (.c (.p (H.length + n) 0), appL H L') := by
  subst ho
  simp only [evOp, ht, len_app hn, app_app hl]
theorem o_box {n m : Nat} {cs : List C} {x : V} (ho : op = .box t px) (hx : opnd tm px = some x) (hc : x.cells = some (m, cs)) (hn : L.length = n) (hl : appL L [.var true m cs] = L') : evOp T call op tm (appL H L) = some (.c (.p (H.length + n) 0), appL H L') := by
  subst ho
  simp only [evOp, hx, hc, len_app hn, app_app hl]
/-- A whole variable. -/
theorem o_ldv {id off m n : Nat} {wr : Bool} {cs ys : List C} {ti : TI} (ho : op = .load t px) (ha : opnd tm px = some (.c (.p id off))) (ht : tyAt T t = some ti) (hg : ti.agg = true) (hb : getL H id = some (.var wr m cs)) (hn : ti.size = n) (hs : sub m cs off n = some ys) : evOp T call op tm H = some (.ag n ys, H) := by
  subst ho; subst hn
  simp only [evOp, ha, vload, ht, hg, cond_true, rdAt, hb, hs, Option.map_some]
/-- One cell of a variable. -/
theorem o_ld1 {id off m : Nat} {wr : Bool} {cs : List C} {c : C} {ti : TI} (ho : op = .load t px) (ha : opnd tm px = some (.c (.p id off))) (ht : tyAt T t = some ti) (hg : ti.agg = false) (hb : getL H id = some (.var wr m cs)) (hs : getL cs off = some c) (hm : cs.length = m) : evOp T call op tm H = some (.c c, H) := by
  subst ho
  rw [getL_eq] at hs
  have hlt := (List.getElem?_eq_some_iff.1 hs).1
  have hsub : ∃ r, sub m cs off 1 = some (c :: r) := by
    unfold sub
    cases hc : (Nat.beq off 0 && Nat.beq 1 m) with
    | true =>
      simp only [Bool.and_eq_true] at hc
      have h0 := beq_nat hc.1
      subst h0
      cases cs with
      | nil => simp at hs
      | cons x cs => simp at hs; subst hs; exact ⟨cs, rfl⟩
    | false =>
      refine ⟨[], ?_⟩
      rw [cond_false, dropL_eq, takeL_of _ _ (by simp; omega)]
      congr 1
      have : cs.drop off = c :: cs.drop (off + 1) := by
        rw [List.drop_eq_getElem_cons hlt]
        congr 1
        exact (List.getElem?_eq_some_iff.1 hs).2
      rw [this]; rfl
  obtain ⟨r, hsub⟩ := hsub
  simp only [evOp, ha, vload, ht, hg, cond_false, rdAt, hb, hsub, Option.map_some]
/-- A value into a variable, all of it. -/
theorem o_stv {id off m n : Nat} {x : V} {cs ys cs' : List C} {ti : TI} (ho : op = .store t px py) (ha : opnd tm px = some (.c (.p id off))) (hx : opnd tm py = some x) (hc : x.cells = some (n, ys)) (ht : tyAt T t = some ti) (hn : Nat.beq n ti.size = true)
    (hb : getL H id = some (.var true m cs)) (hs : splice m cs off n ys = some cs') (hl : setL H (.var true m cs') id = some H') : evOp T call op tm H = some (.c .un, H') := by
  subst ho
  simp only [evOp, ha, hx, vstore, hc, ht, hn, cond_true, wrAt, hb, hs, hl, Option.map_some]
/-- .. one cell of it. -/
theorem o_st1 {id off m : Nat} {c : C} {cs : List C} {ti : TI} (ho : op = .store t px py) (ha : opnd tm px = some (.c (.p id off))) (hx : opnd tm py = some (.c c)) (hc : (V.c c).cells = some (1, [c])) (ht : tyAt T t = some ti) (hn : Nat.beq 1 ti.size = true)
    (hb : getL H id = some (.var true m cs)) (hm : 1 < m) (hcl : cs.length = m) (hof : off < m) (hl : setL H (.var true m (cs.set off c)) id = some H') : evOp T call op tm H = some (.c .un, H') :=
  o_stv ho ha hx hc ht hn hb (splice_one hm hcl hof) hl
/-- A place of an array. -/
theorem o_ixa {e : TypeId} {id off n sz : Nat} {j : Int} {a1 a2 : Nat} {a3 : List C} {a4 : List PK} {ei : TI} (ho : op = .indexAddr t px py) (hx : opnd tm px = some (.c (.p id off))) (hy : opnd tm py = some (.c (.i k j)))
    (ht : tyAt T t = some ⟨.arr n e, a1, a2, a3, a4⟩) (he : tyAt T e = some ei) (hz : ei.size = sz) (h0 : 0 ≤ j) (hj : j < n) : evOp T call op tm H = some (.c (.p id (off + j.toNat * sz)), H) := by
  subst hz
  exact op_ixa ho hx hy ht he h0 hj
/-- A byte of a text. -/
theorem o_ixs {xs : List UInt8} {j : Int} {c : UInt8} {a1 a2 : Nat} {a3 : List C} {a4 : List PK} (ho : op = .index t px py) (hx : opnd tm px = some (.c (.s xs))) (hy : opnd tm py = some (.c (.i k j))) (ht : tyAt T t = some ⟨.str, a1, a2, a3, a4⟩) (h0 : 0 ≤ j) (hj : xs[j.toNat]? = some c) : evOp T call op tm H = some (.c (.i .u8 c.toNat), H) := by
  subst ho
  cases j with
  | negSucc m => exact absurd h0 (by simp)
  | ofNat m =>
    have hj' : getL xs m = some c := by rw [getL_eq]; exact hj
    simp only [evOp, hx, hy, vindex, ht, hj', Option.map_some]
/-- A cell of an array's value. -/
theorem o_ixv {cs : List C} {m n : Nat} {e : TypeId} {j : Int} {c : C} {a1 a2 : Nat} {a3 : List C} {a4 : List PK} {ei : TI} (ho : op = .index t px py) (hx : opnd tm px = some (.ag m cs)) (hy : opnd tm py = some (.c (.i k j))) (ht : tyAt T t = some ⟨.arr n e, a1, a2, a3, a4⟩) (he : tyAt T e = some ei) (hg : ei.agg = false) (hz : ei.size = 1) (h0 : 0 ≤ j) (hj : j < n) (hc : cs[j.toNat]? = some c) : evOp T call op tm H = some (.c c, H) := by
  subst ho
  have hin : inN j n = true := by rw [inN_eq]; simp [h0, hj]
  have hc' : getL cs (j.toNat * 1) = some c := by rw [getL_eq, Nat.mul_one]; exact hc
  simp only [evOp, hx, hy, vindex, ht, he, hin, cond_true, vpart, hg, cond_false, hz, hc', Option.map_some]
end
/-! ### which operation comes next -/
section
variable {ops l : List Oper} {tm : List V} {H : Heap} {Q : List V → Heap → Prop} {dd : Option Tmp} {ty : TypeId} {po : String} {af : Array Edge} {gd : Option (Nat × Bool)} {g : Nat × Bool} {op : Op} {x y z : Operand} {t t2 t3 : TypeId} {bop : BinOp} {n : Nat} {ps : Array (Nat × Operand)} {b : Builtin} {as : Array Operand} {ts : Array TypeId} {f : FuncId} {lo hi mx : Option Operand} {uop : UnOp} {c : Bool}
def othOp : Op → Bool
  | .unOp _ _ _ => true
  | .convert _ _ _ => true
  | .build _ _ => true
  | .buildSlice _ _ _ => true
  | .field _ _ _ => true
  | .fieldAddr _ _ _ => true
  | .slice _ _ _ _ _ => true
  | .pick _ _ _ => true
  | .sliceToArrayPointer _ _ => true
  | .nilCheck _ => true
  | .makeFunc _ _ _ => true
  | _ => false
theorem c_guard (h : pS T call ops (⟨dd, op, ty, po, af, some g⟩ :: l) tm H Q) : pS T call ops (⟨dd, op, ty, po, af, some g⟩ :: l) tm H Q := h
theorem c_move (h : pS T call ops (⟨dd, .move x, ty, po, af, gd⟩ :: l) tm H Q) : pS T call ops (⟨dd, .move x, ty, po, af, gd⟩ :: l) tm H Q := h
theorem c_assign (h : pS T call ops (⟨dd, .assign x, ty, po, af, gd⟩ :: l) tm H Q) : pS T call ops (⟨dd, .assign x, ty, po, af, gd⟩ :: l) tm H Q := h
theorem c_extract (h : pS T call ops (⟨dd, .extract x n, ty, po, af, gd⟩ :: l) tm H Q) : pS T call ops (⟨dd, .extract x n, ty, po, af, gd⟩ :: l) tm H Q := h
theorem c_bin (h : pS T call ops (⟨dd, .binOp bop t x y t2, ty, po, af, gd⟩ :: l) tm H Q) : pS T call ops (⟨dd, .binOp bop t x y t2, ty, po, af, gd⟩ :: l) tm H Q := h
theorem c_alloc (h : pS T call ops (⟨dd, .alloc t, ty, po, af, gd⟩ :: l) tm H Q) : pS T call ops (⟨dd, .alloc t, ty, po, af, gd⟩ :: l) tm H Q := h
theorem c_box (h : pS T call ops (⟨dd, .box t x, ty, po, af, gd⟩ :: l) tm H Q) : pS T call ops (⟨dd, .box t x, ty, po, af, gd⟩ :: l) tm H Q := h
theorem c_load (h : pS T call ops (⟨dd, .load t x, ty, po, af, gd⟩ :: l) tm H Q) : pS T call ops (⟨dd, .load t x, ty, po, af, gd⟩ :: l) tm H Q := h
theorem c_store (h : pS T call ops (⟨dd, .store t x y, ty, po, af, gd⟩ :: l) tm H Q) : pS T call ops (⟨dd, .store t x y, ty, po, af, gd⟩ :: l) tm H Q := h
theorem c_call (h : pS T call ops (⟨dd, .call ⟨.value (.func f), as, ts⟩, ty, po, af, gd⟩ :: l) tm H Q) : pS T call ops (⟨dd, .call ⟨.value (.func f), as, ts⟩, ty, po, af, gd⟩ :: l) tm H Q := h
theorem c_blt (h : pS T call ops (⟨dd, .call ⟨.builtin b, as, ts⟩, ty, po, af, gd⟩ :: l) tm H Q) : pS T call ops (⟨dd, .call ⟨.builtin b, as, ts⟩, ty, po, af, gd⟩ :: l) tm H Q := h
theorem c_ixa (h : pS T call ops (⟨dd, .indexAddr t x y, ty, po, af, gd⟩ :: l) tm H Q) : pS T call ops (⟨dd, .indexAddr t x y, ty, po, af, gd⟩ :: l) tm H Q := h
theorem c_ix (h : pS T call ops (⟨dd, .index t x y, ty, po, af, gd⟩ :: l) tm H Q) : pS T call ops (⟨dd, .index t x y, ty, po, af, gd⟩ :: l) tm H Q := h
theorem c_any {o : Oper} (h : pS T call ops (o :: l) tm H Q) : pS T call ops (o :: l) tm H Q := h
end
theorem pS_cl {T : Tys} {call : CallF} {ops l : List Oper} {o : Oper} {tm tm' : List V} {H : Heap} {Q : List V → Heap → Prop} {f : FuncId} {as : Array Operand} {ts : Array TypeId} {vs : List V} {v : V} {H' : Heap} (hw : wantedE ops o tm = some true) (ho : o.op = .call ⟨.value (.func f), as, ts⟩) (ha : opnds tm as.toList = some vs) (h : Vc call f vs H (v, H')) (hp : putT tm o.dst v = some tm') (k : pS T call ops l tm' H' Q) : pS T call ops (o :: l) tm H Q := pS_call (r := (v, H')) hw ho ha h.out hp k
/-! ### code -/
section
variable {R : Ex → St → Prop} {s : St} {a b : Code} {c : Operand} {i : Nat}
theorem pC_condT (h : opnd s.tm c = some (.c (.b true))) (k : pC T call K a s R) : pC T call K (.cond c a b) s R := pC_cond h (fun _ => k) (fun e => by cases e)
theorem pC_condF (h : opnd s.tm c = some (.c (.b false))) (k : pC T call K b s R) : pC T call K (.cond c a b) s R := pC_cond h (fun e => by cases e) (fun _ => k)
theorem pC_reg {ops : List Oper} {tm : List V} {H : Heap} (h : pS T call ops ops tm H fun tm H => R .normal ⟨tm, H⟩) : pC T call K (.region i (List.toArray ops) false) ⟨tm, H⟩ R := pC_region h
theorem pC_T {tm : List V} {H : Heap} (h : opnd tm c = some (.c (.b true))) (k : pC T call K a ⟨tm, H⟩ R) : pC T call K (.cond c a b) ⟨tm, H⟩ R := pC_condT h k
theorem pC_F {tm : List V} {H : Heap} (h : opnd tm c = some (.c (.b false))) (k : pC T call K b ⟨tm, H⟩ R) : pC T call K (.cond c a b) ⟨tm, H⟩ R := pC_condF h k
theorem pC_mono {R' : Ex → St → Prop} {c : Code} (h : pC T call K c s R) (m : ∀ ex s', R ex s' → R' ex s') : pC T call K c s R' := by
  obtain ⟨ex, s', e, q⟩ := h
  exact ⟨ex, s', e, m _ _ q⟩
/-- A loop by what holds ahead of each round: a number that falls from round to round. -/
theorem pC_while {a : Code} (I : Nat → St → Prop) {m : Nat} (h0 : I m s) (hm : m < K) (hr : ∀ j s, I j s → pC T call K a s fun ex s' => match ex with
    | .normal => ∃ j', j' < j ∧ I j' s'
    | ex => R ex s') : pC T call K (.loop a) s R := by
  refine pC_loop (fun n s => ∃ j, j ≤ n ∧ I j s) hm ⟨m, Nat.le_refl _, h0⟩ fun n s ⟨j, hj, hI⟩ => ?_
  refine pC_mono (hr j s hI) fun ex s' q => ?_
  cases ex with
  | normal =>
    obtain ⟨j', h1, h2⟩ := q
    exact ⟨n - 1, by omega, j', by omega, h2⟩
  | exit i => exact q
  | ret => exact q
end
/-- A state, its idle places named by one function. -/
theorem jn {tm : List V} {H H' : Heap} {f : (Nat → V) → List V} (h : tm = f (fun k => tm.getD k (.c .un))) (hH : H = H') : ∃ J : Nat → V, (⟨tm, H⟩ : St) = ⟨f J, H'⟩ := ⟨_, by rw [← h, hH]⟩
theorem pC_isloop {R : Ex → St → Prop} {s : St} {a : Code} {i : Nat} (h : pC T call K (.block i (.loop a)) s R) : pC T call K (.block i (.loop a)) s R := h
/-- .. with what holds behind it. -/
theorem pC_until {R : Ex → St → Prop} {s : St} {a : Code} {i : Nat} (I : Nat → St → Prop) (E : St → Prop) {m : Nat} (h0 : I m s) (hm : m < K) (hr : ∀ j s, I j s → pC T call K a s fun ex s' => match ex with
    | .normal => ∃ j', j' < j ∧ I j' s'
    | .exit k => bif Nat.beq k i then E s' else R (.exit k) s'
    | .ret => R .ret s') (hE : ∀ s, E s → R .normal s) : pC T call K (.block i (.loop a)) s R := by
  refine pC_block (pC_while I h0 hm fun j s hI => ?_)
  refine pC_mono (hr j s hI) fun ex s' q => ?_
  cases ex with
  | normal => exact q
  | ret => exact q
  | exit k =>
    cases hk : Nat.beq k i with
    | true => simp only [hk, cond_true] at q ⊢; exact hE _ q
    | false => simp only [hk, cond_false] at q ⊢; exact q
/-! ### regions that draw their order -/
section
variable {ops l : List Oper} {o : Oper} {tm tm' : List V} {H0 : Heap} {cls : List Nat} {i : Nat} {Q : Rg → Prop}
structure pA (T : Tys) (call : CallF) (ops : List Oper) (H0 : Heap) (cls : List Nat) (l : List Oper) (i : Nat) (r : Rg) (Q : Rg → Prop) : Prop where
  out : ∃ r', evAny T call ops H0 cls l i r = some r' ∧ Q r'
theorem pA_nil {r : Rg} (h : Q r) : pA T call ops H0 cls [] i r Q := ⟨r, rfl, h⟩
theorem evAny_step {r : Rg} (hns : isStore o.op = false) : evAny T call ops H0 cls (o :: l) i r = (match evStep T call ops o r.tm (appL (freeze H0) (freeze (viewN (clAt cls i) r.own r.upd r.N))) with
        | some (v, H') => forceV v fun v => match putT r.tm o.dst v with
          | some tm' => evAny T call ops H0 cls l (i + 1) ⟨tm', appL r.own (List.replicate (dropL H' (H0.length + r.N.length)).length i), appL r.upd (List.replicate (dropL H' (H0.length + r.N.length)).length none), appL r.N (dropL H' (H0.length + r.N.length))⟩
          | none => none
        | none => none) := by
  obtain ⟨od, oo, oa, og⟩ := o
  cases oo <;> first | rfl | cases hns
theorem pA_op {own own' : List Nat} {upd upd' : List (Option Nat)} {N N' M M' D : Heap} {v : V} (hw : wantedE ops o tm = some true) (hns : isStore o.op = false) (hm : freeze (viewN (clAt cls i) own upd N) = M) (h : evOp T call o.op tm (appL (freeze H0) M) = some (v, appL (freeze H0) M')) (hd : dropL M' N.length = D)
    (ho : appL own (List.replicate D.length i) = own') (hu : appL upd (List.replicate D.length none) = upd') (hN : appL N D = N') (hp : putT tm o.dst v = some tm') (k : pA T call ops H0 cls l (i + 1) ⟨tm', own', upd', N'⟩ Q) : pA T call ops H0 cls (o :: l) i ⟨tm, own, upd, N⟩ Q := by
  obtain ⟨r, e, q⟩ := k
  refine ⟨r, ?_, q⟩
  subst hm ho hu hN hd
  rw [evAny_step hns]
  unfold evStep
  have hl : dropL (appL (freeze H0) M') (H0.length + N.length) = dropL M' N.length := by rw [← freeze_len (H := H0)]; exact dropL_app _ _ _
  simp only [hw, h, forceV_eq, hp, hl, e]
theorem pA_no {own : List Nat} {upd : List (Option Nat)} {N : Heap} (hw : wantedE ops o tm = some false) (hns : isStore o.op = false) (hp : putT tm o.dst (.c .un) = some tm') (hv : (viewN (clAt cls i) own upd N).length = N.length) (k : pA T call ops H0 cls l (i + 1) ⟨tm', own, upd, N⟩ Q) : pA T call ops H0 cls (o :: l) i ⟨tm, own, upd, N⟩ Q := by
  obtain ⟨r, e, q⟩ := k
  refine ⟨r, ?_, q⟩
  rw [evAny_step hns]
  unfold evStep
  have hl : dropL (appL (freeze H0) (freeze (viewN (clAt cls i) own upd N))) (H0.length + N.length) = [] := by
    rw [← freeze_len (H := H0), dropL_app, dropL_eq]
    simp [freeze_len, hv]
  simp only [hw, forceV_eq, hp, hl, List.length_nil, List.replicate_zero]
  simp only [appL_eq, List.append_nil, e]
theorem pC_draw {R : Ex → St → Prop} {os : Array Oper} {s : St} {n : Nat} {tl : List Oper} (hc : clsOf os.toList [] = cls) (hk : (apartB os.toList (clsOf os.toList []) && noSel os.toList && orderB (clsOf os.toList []) os.toList.length) = true) (hn : Nat.beq (tailX os.toList (clsOf os.toList [])) n = true) (htl : dropL os.toList n = tl)
    (h : pA T call os.toList s.H cls (os.toList.take n) 0 ⟨s.tm, [], [], []⟩ fun r => pS T call os.toList tl r.tm (appL s.H r.N) fun tm H => R .normal ⟨tm, H⟩) (hmx : mixAt os.toList = none := by rfl) : pC T call K (.region i os true) s R := by
  have hn := beq_nat hn
  subst hn htl hc
  obtain ⟨r, e, tm, H, e2, q⟩ := h
  refine ⟨_, _, ?_, q⟩
  show (match evDrawM T call os.toList s.tm s.H with
      | some (tm, H) => some (Ex.normal, (⟨tm, H⟩ : St))
      | none => none) = _
  unfold evDrawM evDraw
  simp only [hmx, hk, cond_true, e, e2]
end
end
end Go.Proofs.Ytgfeohklkinccaa.Pe
