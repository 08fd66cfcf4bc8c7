/- A plain reading of the model's code: regions that draw their order, step by step. -/
import Derived.Test.YtgfeohklkinccaaPeS
set_option linter.unusedVariables false
namespace Go.Proofs.Ytgfeohklkinccaa.Pe
section
variable {T : Tys} {call : CallF} {ops l : List Oper} {H0 : Heap} {cls : List Nat} {i : Nat} {r : Rg} {Q : Rg → Prop} {dd : Option Tmp} {ty : TypeId} {po : String} {af : Array Edge} {gd : Option (Nat × Bool)} {g : Nat × Bool} {op : Op} {x y z : Operand} {t t2 t3 : TypeId} {bop : BinOp} {n : Nat} {b : Builtin} {as : Array Operand} {ts : Array TypeId} {f : FuncId}
theorem d_guard (h : pA T call ops H0 cls (⟨dd, op, ty, po, af, some g⟩ :: l) i r Q) : pA T call ops H0 cls (⟨dd, op, ty, po, af, some g⟩ :: l) i r Q := h
theorem d_move (h : pA T call ops H0 cls (⟨dd, .move x, ty, po, af, gd⟩ :: l) i r Q) : pA T call ops H0 cls (⟨dd, .move x, ty, po, af, gd⟩ :: l) i r Q := h
theorem d_assign (h : pA T call ops H0 cls (⟨dd, .assign x, ty, po, af, gd⟩ :: l) i r Q) : pA T call ops H0 cls (⟨dd, .assign x, ty, po, af, gd⟩ :: l) i r Q := h
theorem d_extract (h : pA T call ops H0 cls (⟨dd, .extract x n, ty, po, af, gd⟩ :: l) i r Q) : pA T call ops H0 cls (⟨dd, .extract x n, ty, po, af, gd⟩ :: l) i r Q := h
theorem d_bin (h : pA T call ops H0 cls (⟨dd, .binOp bop t x y t2, ty, po, af, gd⟩ :: l) i r Q) : pA T call ops H0 cls (⟨dd, .binOp bop t x y t2, ty, po, af, gd⟩ :: l) i r Q := h
theorem d_alloc (h : pA T call ops H0 cls (⟨dd, .alloc t, ty, po, af, gd⟩ :: l) i r Q) : pA T call ops H0 cls (⟨dd, .alloc t, ty, po, af, gd⟩ :: l) i r Q := h
theorem d_box (h : pA T call ops H0 cls (⟨dd, .box t x, ty, po, af, gd⟩ :: l) i r Q) : pA T call ops H0 cls (⟨dd, .box t x, ty, po, af, gd⟩ :: l) i r Q := h
theorem d_load (h : pA T call ops H0 cls (⟨dd, .load t x, ty, po, af, gd⟩ :: l) i r Q) : pA T call ops H0 cls (⟨dd, .load t x, ty, po, af, gd⟩ :: l) i r Q := h
theorem d_store (h : pA T call ops H0 cls (⟨dd, .store t x y, ty, po, af, gd⟩ :: l) i r Q) : pA T call ops H0 cls (⟨dd, .store t x y, ty, po, af, gd⟩ :: l) i r Q := h
theorem d_call (h : pA T call ops H0 cls (⟨dd, .call ⟨.value (.func f), as, ts⟩, ty, po, af, gd⟩ :: l) i r Q) : pA T call ops H0 cls (⟨dd, .call ⟨.value (.func f), as, ts⟩, ty, po, af, gd⟩ :: l) i r Q := h
theorem d_blt (h : pA T call ops H0 cls (⟨dd, .call ⟨.builtin b, as, ts⟩, ty, po, af, gd⟩ :: l) i r Q) : pA T call ops H0 cls (⟨dd, .call ⟨.builtin b, as, ts⟩, ty, po, af, gd⟩ :: l) i r Q := h
theorem d_ixa (h : pA T call ops H0 cls (⟨dd, .indexAddr t x y, ty, po, af, gd⟩ :: l) i r Q) : pA T call ops H0 cls (⟨dd, .indexAddr t x y, ty, po, af, gd⟩ :: l) i r Q := h
theorem d_ix (h : pA T call ops H0 cls (⟨dd, .index t x y, ty, po, af, gd⟩ :: l) i r Q) : pA T call ops H0 cls (⟨dd, .index t x y, ty, po, af, gd⟩ :: l) i r Q := h
theorem d_oth {o : Oper} (h : pA T call ops H0 cls (o :: l) i r Q) : pA T call ops H0 cls (o :: l) i r Q := h
end
section
variable {T : Tys} {call : CallF} {K : Nat} {op : Op} {tm tm' tt tf : List V} {H H0 L L' M M' D : Heap} {t e : TypeId} {px py : Operand} {k : IntKind} {a b : Int} {a1 a2 : Nat} {a3 : List C} {a4 : List PK} {ei : TI} {n : Nat}
section
variable {cl w i : Nat} {own ws : List Nat} {upd us : List (Option Nat)} {u : Nat} {N N' : Heap} {b : Bk} {cls : List Nat}
/-- What an operation sees of the region's own blocks, block by block. -/
structure View (cl : Nat) (own : List Nat) (upd : List (Option Nat)) (N M : Heap) : Prop where
  out : freeze (viewN cl own upd N) = M
theorem View.nil : View cl [] [] [] [] := ⟨rfl⟩
theorem View.see (h : bit cl w = true) (k : View cl ws us N M) : View cl (w :: ws) (none :: us) (b :: N) (b.frz :: M) := ⟨by
  have := k.out
  simp only [viewN, h, cond_true, freeze, List.map_cons] at this ⊢
  rw [this]⟩
theorem View.hid (h : bit cl w = false) (k : View cl ws us N M) : View cl (w :: ws) (none :: us) (b :: N) (.dead 0 :: M) := ⟨by
  have := k.out
  simp only [viewN, h, cond_false, freeze, List.map_cons, Bk.frz] at this ⊢
  rw [this]⟩
theorem View.seeU (h : bit cl w = true) (h2 : bit cl u = true) (k : View cl ws us N M) : View cl (w :: ws) (some u :: us) (b :: N) (b.frz :: M) := ⟨by
  have := k.out
  simp only [viewN, h, h2, cond_true, freeze, List.map_cons] at this ⊢
  rw [this]⟩
theorem View.hidU (h : bit cl w = false) (k : View cl ws us N M) : View cl (w :: ws) (some u :: us) (b :: N) (.dead 0 :: M) := ⟨by
  have := k.out
  simp only [viewN, h, cond_false, freeze, List.map_cons, Bk.frz] at this ⊢
  rw [this]⟩
theorem View.hidW (h : bit cl w = true) (h2 : bit cl u = false) (k : View cl ws us N M) : View cl (w :: ws) (some u :: us) (b :: N) (.dead b.gb :: M) := ⟨by
  have := k.out
  simp only [viewN, h, h2, cond_true, cond_false, freeze, List.map_cons, Bk.frz] at this ⊢
  rw [this]⟩
end
/-! ### a region -/
theorem pC_drw {R : Ex → St → Prop} {ops : List Oper} {n i : Nat} (cls : List Nat) (hc : clsOf ops [] = cls) (hk : (apartB ops (clsOf ops []) && noSel ops && orderB (clsOf ops []) ops.length) = true) (hn : Nat.beq (tailX ops (clsOf ops [])) n = true) 
    (h : pA T call ops (appL H L) cls (ops.take n) 0 ⟨tm, [], [], []⟩ fun r => pS T call ops (ops.drop n) r.tm (appL H (appL L r.N)) fun tm H => R .normal ⟨tm, H⟩) (hmx : mixAt ops = none := by rfl) : pC T call K (.region i (List.toArray ops) true) ⟨tm, appL H L⟩ R := by
  subst hc
  refine pC_draw (hmx := hmx) rfl hk hn (dropL_eq _ _) ?_
  obtain ⟨r, e, q⟩ := h
  exact ⟨r, e, by rw [app_app rfl]; exact q⟩
/-! ### tests -/
theorem o_cmp {p} {bop : BinOp} {r : C} (h : (match bop with | .shl | .shr => none | _ => cint bop k a b) = some r) (ho : op = .binOp bop t px py p) (hx : opnd tm px = some (.c (.i k a))) (hy : opnd tm py = some (.c (.i k b))) : evOp T call op tm H = some (.c r, H) := by
  subst ho
  have h2 := vcmp (T := T) (t := t) h
  simp only [evOp, hx, hy, h2, Option.map_some]
theorem o_lss {p} (ho : op = .binOp .lss t px py p) (hx : opnd tm px = some (.c (.i k a))) (hy : opnd tm py = some (.c (.i k b))) : evOp T call op tm H = some (.c (.b (decide (a < b))), H) := by
  refine o_cmp ?_ ho hx hy
  show some (C.b (!leI b a)) = _
  rw [leI_eq]; congr 2; rw [Bool.eq_iff_iff]; simp
theorem o_leq {p} (ho : op = .binOp .leq t px py p) (hx : opnd tm px = some (.c (.i k a))) (hy : opnd tm py = some (.c (.i k b))) : evOp T call op tm H = some (.c (.b (decide (a ≤ b))), H) := by
  refine o_cmp ?_ ho hx hy
  show some (C.b (leI a b)) = _
  rw [leI_eq]
theorem o_gtr {p} (ho : op = .binOp .gtr t px py p) (hx : opnd tm px = some (.c (.i k a))) (hy : opnd tm py = some (.c (.i k b))) : evOp T call op tm H = some (.c (.b (decide (b < a))), H) := by
  refine o_cmp ?_ ho hx hy
  show some (C.b (!leI a b)) = _
  rw [leI_eq]; congr 2; rw [Bool.eq_iff_iff]; simp
theorem o_geq {p} (ho : op = .binOp .geq t px py p) (hx : opnd tm px = some (.c (.i k a))) (hy : opnd tm py = some (.c (.i k b))) : evOp T call op tm H = some (.c (.b (decide (b ≤ a))), H) := by
  refine o_cmp ?_ ho hx hy
  show some (C.b (leI b a)) = _
  rw [leI_eq]
theorem o_eql {p} (ho : op = .binOp .eql t px py p) (hx : opnd tm px = some (.c (.i k a))) (hy : opnd tm py = some (.c (.i k b))) : evOp T call op tm H = some (.c (.b (decide (a = b))), H) := by
  refine o_cmp ?_ ho hx hy
  show some (C.b (eqI a b)) = _
  rw [eqI_eq]; congr 2
theorem o_neq {p} (ho : op = .binOp .neq t px py p) (hx : opnd tm px = some (.c (.i k a))) (hy : opnd tm py = some (.c (.i k b))) : evOp T call op tm H = some (.c (.b (decide (¬ a = b))), H) := by
  refine o_cmp ?_ ho hx hy
  show some (C.b (!eqI a b)) = _
  rw [eqI_eq]; congr 2; rw [Bool.eq_iff_iff]; simp
theorem o_eqs {p} {xs ys : List UInt8} (ho : op = .binOp .eql t px py p) (hx : opnd tm px = some (.c (.s xs))) (hy : opnd tm py = some (.c (.s ys))) : evOp T call op tm H = some (.c (.b (decide (xs = ys))), H) := by
  subst ho
  simp only [evOp, hx, hy, vbin, cstr, Option.map_some]
  congr 4
  rw [Bool.eq_iff_iff]; simp
theorem o_nes {p} {xs ys : List UInt8} (ho : op = .binOp .neq t px py p) (hx : opnd tm px = some (.c (.s xs))) (hy : opnd tm py = some (.c (.s ys))) : evOp T call op tm H = some (.c (.b (decide (¬ xs = ys))), H) := by
  subst ho
  simp only [evOp, hx, hy, vbin, cstr, Option.map_some]
  congr 4
  rw [Bool.eq_iff_iff]; simp
theorem o_eqBd {p} {l m : List UInt8} {ti : TI} {z : Nat} (ho : op = .binOp .eql t px py p) (hx : opnd tm px = some (.ag z (bytesC l))) (hy : opnd tm py = some (.ag z (bytesC m))) (ht : tyAt T t = some ti) (hg : ti.agg = true) (hk : ti.ks = List.replicate z (.int .u8)) (hz : 0 < z) (hl : l.length = z) (hm : m.length = z) : evOp T call op tm H = some (.c (.b (decide (l = m))), H) := by
  rw [o_eqB (bop := .eql) ho hx hy ht hg hk hz hl hm]; congr 4
  rw [Bool.eq_iff_iff]; simp
theorem o_neBd {p} {l m : List UInt8} {ti : TI} {z : Nat} (ho : op = .binOp .neq t px py p) (hx : opnd tm px = some (.ag z (bytesC l))) (hy : opnd tm py = some (.ag z (bytesC m))) (ht : tyAt T t = some ti) (hg : ti.agg = true) (hk : ti.ks = List.replicate z (.int .u8)) (hz : 0 < z) (hl : l.length = z) (hm : m.length = z) : evOp T call op tm H = some (.c (.b (decide (¬ l = m))), H) := by
  rw [o_neB ho hx hy ht hg hk hz hl hm]; congr 4
  rw [Bool.eq_iff_iff]; simp
theorem o_eqb {p} {a b : Bool} (ho : op = .binOp .eql t px py p) (hx : opnd tm px = some (.c (.b a))) (hy : opnd tm py = some (.c (.b b))) (ht : tyAt T t = some ⟨.bool, a1, a2, a3, a4⟩) : evOp T call op tm H = some (.c (.b (a == b)), H) := by
  subst ho
  simp only [evOp, hx, hy, vbin, ht, Option.map_some]
theorem o_neb {p} {a b : Bool} (ho : op = .binOp .neq t px py p) (hx : opnd tm px = some (.c (.b a))) (hy : opnd tm py = some (.c (.b b))) (ht : tyAt T t = some ⟨.bool, a1, a2, a3, a4⟩) : evOp T call op tm H = some (.c (.b (!(a == b))), H) := by
  subst ho
  simp only [evOp, hx, hy, vbin, ht, Option.map_some]
/-- '==' of two structs, their cells written out. -/
theorem o_eqA {p} {xs ys : List C} {m n : Nat} {ti : TI} {q : Prop} [Decidable q] (ho : op = .binOp .eql t px py p) (hx : opnd tm px = some (.ag m xs)) (hy : opnd tm py = some (.ag n ys)) (ht : tyAt T t = some ti) (hk : (ti.agg && !ti.ks.isEmpty && kinds xs ti.ks && kinds ys ti.ks) = true) (hq : ceqs xs ys = decide q) : evOp T call op tm H = some (.c (.b (decide q)), H) := by
  subst ho
  simp only [evOp, hx, hy, vbin, ht, hk, cond_true, hq, Option.map_some]
theorem o_neA {p} {xs ys : List C} {m n : Nat} {ti : TI} {q : Prop} [Decidable q] (ho : op = .binOp .neq t px py p) (hx : opnd tm px = some (.ag m xs)) (hy : opnd tm py = some (.ag n ys)) (ht : tyAt T t = some ti) (hk : (ti.agg && !ti.ks.isEmpty && kinds xs ti.ks && kinds ys ti.ks) = true) (hq : ceqs xs ys = decide q) : evOp T call op tm H = some (.c (.b (decide (¬ q))), H) := by
  subst ho
  simp only [evOp, hx, hy, vbin, ht, hk, cond_true, hq, Option.map_some]
  congr 4
  by_cases h : q <;> simp [h]
theorem ceqs_nil : ceqs [] [] = decide True := rfl
theorem ceqs_i {k k' : IntKind} {a b : Int} {xs ys : List C} {q : Prop} [Decidable q] (h : ceqs xs ys = decide q) : ceqs (.i k a :: xs) (.i k' b :: ys) = decide (a = b ∧ q) := by
  show (bif eqI a b then ceqs xs ys else false) = _
  rw [eqI_eq, h]
  by_cases e : a = b <;> by_cases hq : q <;> simp [e, hq]
theorem ceqs_s {a b : List UInt8} {xs ys : List C} {q : Prop} [Decidable q] (h : ceqs xs ys = decide q) : ceqs (.s a :: xs) (.s b :: ys) = decide (a = b ∧ q) := by
  show (bif (a == b) then ceqs xs ys else false) = _
  rw [h]
  by_cases e : a = b <;> by_cases hq : q <;> simp [e, hq]
theorem ceqs_b {a b : Bool} {xs ys : List C} {q : Prop} [Decidable q] (h : ceqs xs ys = decide q) : ceqs (.b a :: xs) (.b b :: ys) = decide (a = b ∧ q) := by
  show (bif (a == b) then ceqs xs ys else false) = _
  rw [h]
  by_cases e : a = b <;> by_cases hq : q <;> simp [e, hq]
theorem pS_dec {ops l : List Oper} {o : Oper} {Q : List V → Heap → Prop} {p : Prop} [Decidable p] (hw : wantedE ops o tm = some true) (h : evOp T call o.op tm H = some (.c (.b (decide p)), H0)) (hp : putT tm o.dst (.c (.b true)) = some tt) (hq : putT tm o.dst (.c (.b false)) = some tf)
    (k1 : p → pS T call ops l tt H0 Q) (k2 : ¬ p → pS T call ops l tf H0 Q) : pS T call ops (o :: l) tm H Q :=
  pS_test hw h hp hq (fun e => k1 (of_decide_eq_true e)) (fun e => k2 (of_decide_eq_false e))
section
variable {ops l : List Oper} {o : Oper} {cls : List Nat} {i : Nat} {Q : Rg → Prop} {own own' : List Nat} {upd upd' : List (Option Nat)} {N N' : Heap}
theorem pA_dec {p : Prop} [Decidable p] (hw : wantedE ops o tm = some true) (hns : isStore o.op = false) (hm : View (clAt cls i) own upd N M) (h : evOp T call o.op tm (appL (freeze H0) M) = some (.c (.b (decide p)), appL (freeze H0) M)) (hd : dropL M N.length = [])
    (hp : putT tm o.dst (.c (.b true)) = some tt) (hq : putT tm o.dst (.c (.b false)) = some tf)
    (k1 : p → pA T call ops H0 cls l (i + 1) ⟨tt, own, upd, N⟩ Q) (k2 : ¬ p → pA T call ops H0 cls l (i + 1) ⟨tf, own, upd, N⟩ Q) : pA T call ops H0 cls (o :: l) i ⟨tm, own, upd, N⟩ Q := by
  by_cases hh : p
  · rw [decide_eq_true hh] at h
    exact pA_op hw hns hm.out h hd (by simp [appL_eq]) (by simp [appL_eq]) (by simp [appL_eq]) hp (k1 hh)
  · rw [decide_eq_false hh] at h
    exact pA_op hw hns hm.out h hd (by simp [appL_eq]) (by simp [appL_eq]) (by simp [appL_eq]) hq (k2 hh)
/-- An operation that makes memory. -/
theorem pA_mk {v : V} (hw : wantedE ops o tm = some true) (hns : isStore o.op = false) (hm : View (clAt cls i) own upd N M) (h : evOp T call o.op tm (appL (freeze H0) M) = some (v, appL (freeze H0) M')) (hd : dropL M' N.length = D)
    (ho : appL own (List.replicate D.length i) = own') (hu : appL upd (List.replicate D.length none) = upd') (hN : appL N D = N') (hp : putT tm o.dst v = some tm') (k : pA T call ops H0 cls l (i + 1) ⟨tm', own', upd', N'⟩ Q) : pA T call ops H0 cls (o :: l) i ⟨tm, own, upd, N⟩ Q := pA_op hw hns hm.out h hd ho hu hN hp k
/-- An operation that makes nothing. -/
theorem pA_pure {v : V} (hw : wantedE ops o tm = some true) (hns : isStore o.op = false) (hm : View (clAt cls i) own upd N M) (h : evOp T call o.op tm (appL (freeze H0) M) = some (v, appL (freeze H0) M)) (hd : dropL M N.length = []) (hp : putT tm o.dst v = some tm')
    (k : pA T call ops H0 cls l (i + 1) ⟨tm', own, upd, N⟩ Q) : pA T call ops H0 cls (o :: l) i ⟨tm, own, upd, N⟩ Q :=
  pA_op hw hns hm.out h hd (by simp [appL_eq]) (by simp [appL_eq]) (by simp [appL_eq]) hp k
end
/-- The next operation, what it sees laid out. -/
structure pB (T : Tys) (call : CallF) (ops : List Oper) (H0 : Heap) (cls : List Nat) (o : Oper) (l : List Oper) (i : Nat) (tm : List V) (own : List Nat) (upd : List (Option Nat)) (N M : Heap) (Q : Rg → Prop) : Prop where
  out : View (clAt cls i) own upd N M → pA T call ops H0 cls (o :: l) i ⟨tm, own, upd, N⟩ Q
section
variable {ops l : List Oper} {o : Oper} {cls : List Nat} {i : Nat} {Q : Rg → Prop} {own own' : List Nat} {upd upd' : List (Option Nat)} {N N' : Heap} {v : V}
theorem pA_vw (hm : View (clAt cls i) own upd N M) (k : pB T call ops H0 cls o l i tm own upd N M Q) : pA T call ops H0 cls (o :: l) i ⟨tm, own, upd, N⟩ Q := k.out hm
theorem pB_pure (hw : wantedE ops o tm = some true) (hns : isStore o.op = false) (h : evOp T call o.op tm (appL (freeze H0) M) = some (v, appL (freeze H0) M)) (hd : dropL M N.length = []) (hp : putT tm o.dst v = some tm')
    (k : pA T call ops H0 cls l (i + 1) ⟨tm', own, upd, N⟩ Q) : pB T call ops H0 cls o l i tm own upd N M Q := ⟨fun hm => pA_pure hw hns hm h hd hp k⟩
theorem pB_mk (hw : wantedE ops o tm = some true) (hns : isStore o.op = false) (h : evOp T call o.op tm (appL (freeze H0) M) = some (v, appL (freeze H0) M')) (hd : dropL M' N.length = D)
    (ho : appL own (List.replicate D.length i) = own') (hu : appL upd (List.replicate D.length none) = upd') (hN : appL N D = N') (hp : putT tm o.dst v = some tm') (k : pA T call ops H0 cls l (i + 1) ⟨tm', own', upd', N'⟩ Q) : pB T call ops H0 cls o l i tm own upd N M Q := ⟨fun hm => pA_mk hw hns hm h hd ho hu hN hp k⟩
theorem pB_dec {p : Prop} [Decidable p] (hw : wantedE ops o tm = some true) (hns : isStore o.op = false) (h : evOp T call o.op tm (appL (freeze H0) M) = some (.c (.b (decide p)), appL (freeze H0) M)) (hd : dropL M N.length = [])
    (hp : putT tm o.dst (.c (.b true)) = some tt) (hq : putT tm o.dst (.c (.b false)) = some tf)
    (k1 : p → pA T call ops H0 cls l (i + 1) ⟨tt, own, upd, N⟩ Q) (k2 : ¬ p → pA T call ops H0 cls l (i + 1) ⟨tf, own, upd, N⟩ Q) : pB T call ops H0 cls o l i tm own upd N M Q := ⟨fun hm => pA_dec hw hns hm h hd hp hq k1 k2⟩
end
theorem pA_fin {ops ops2 tl : List Oper} {cls own : List Nat} {upd : List (Option Nat)} {N : Heap} {i : Nat} {R : List V → Heap → Prop} (h : appL L N = L') (k : pS T call ops tl tm (appL H L') R) : pA T call ops2 H0 cls [] i ⟨tm, own, upd, N⟩ (fun r => pS T call ops tl r.tm (appL H (appL L r.N)) R) := by
  subst h
  exact pA_nil k
/-! ### memory in such a region -/
theorem getL_f {j : Nat} {b : Bk} (h : getL (appL (freeze L) M) j = some b) : getL (appL (freeze (appL H L)) M) (H.length + j) = some b := by
  rw [getL_eq] at h ⊢
  have e : appL (freeze (appL H L)) M = freeze H ++ appL (freeze L) M := by simp [appL_eq, freeze]
  rw [e, List.getElem?_append_right (by rw [freeze_len]; omega), freeze_len]
  simpa using h
theorem len_f {k : Nat} (hk : L.length + M.length = k) : (appL (freeze (appL H L)) M).length = H.length + k := by
  subst hk; simp [appL_eq, freeze_len]; omega
theorem o_allocD {k m bb : Nat} {kd : TK} {zz : List C} {ks : List PK} (ho : op = .alloc t) (ht : tyAt T t = some ⟨kd, m, bb, zz, ks⟩) (hk : L.length + M.length = k) (hl : appL M [.var true m zz] = M') : evOp T call op tm (appL (freeze (appL H L)) M) = some (.c (.p (H.length + k) 0), appL (freeze (appL H L)) M') := by
  subst ho
  simp only [evOp, ht, len_f hk, app_app hl]
theorem o_allocDB {k m bb : Nat} {kd : TK} {zz : List C} {ks : List PK} (ho : op = .alloc t) (ht : tyAt T t = some ⟨kd, m, bb, zz, ks⟩) (hz : zz = bytesC (List.replicate m 0)) (hk : L.length + M.length = k) (hl : appL M [.var true m (bytesC (List.replicate m 0))] = M') : evOp T call op tm (appL (freeze (appL H L)) M) = some (.c (.p (H.length + k) 0), appL (freeze (appL H L)) M') := by
  rw [← hz] at hl
  exact o_allocD ho ht hk hl
theorem o_boxD {m k : Nat} {cs : List C} {x : V} (ho : op = .box t px) (hx : opnd tm px = some x) (hc : x.cells = some (m, cs)) (hk : L.length + M.length = k) (hl : appL M [.var true m cs] = M') : evOp T call op tm (appL (freeze (appL H L)) M) = some (.c (.p (H.length + k) 0), appL (freeze (appL H L)) M') := by
  subst ho
  simp only [evOp, hx, hc, len_f hk, app_app hl]
theorem o_s2bD {k : Nat} {s : List UInt8} {src dst : TypeId} {b1 b2 : Nat} {b3 : List C} {b4 : List PK} {c1 c2 : Nat} {c3 : List C} {c4 : List PK} (ho : op = .convert src dst px) (hx : opnd tm px = some (.c (.s s))) (h1 : tyAt T src = some ⟨.str, a1, a2, a3, a4⟩) (h2 : tyAt T dst = some ⟨.sl e, b1, b2, b3, b4⟩) (h3 : tyAt T e = some ⟨.int .u8, c1, c2, c3, c4⟩) (hs : s.length ≤ 140737488355328)
    (hk : L.length + M.length = k) (hl : appL M [.ror (bytesC s) s.length 1] = M') : evOp T call op tm (appL (freeze (appL H L)) M) = some (.c (.sl (H.length + k) 0 s.length s.length), appL (freeze (appL H L)) M') := by
  subst ho
  have hb : Nat.ble s.length 140737488355328 = true := by rw [ble_eq]; simpa using hs
  simp only [evOp, hx, vconvert, h1, h2, h3, hb, cond_true, len_f hk, app_app hl]
end
end Go.Proofs.Ytgfeohklkinccaa.Pe
