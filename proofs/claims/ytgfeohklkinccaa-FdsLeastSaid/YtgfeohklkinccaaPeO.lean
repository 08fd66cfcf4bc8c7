/- A plain reading of the model's code: rows that a call makes and goes on with. -/
import Derived.Test.YtgfeohklkinccaaPeG
set_option linter.unusedVariables false
namespace Go.Proofs.Ytgfeohklkinccaa.Pe
/-- A list that a call holds as its own: n elements, sz cells each, in memory behind H. -/
def OwnR (H N : Heap) (x : C) (sz : Nat) (e : TypeId) (n : Nat) (cs : List C) : Prop :=
  (x = .ns ∧ n = 0 ∧ cs = []) ∨ ∃ j lo, x = .sl (H.length + j) 0 n n ∧ getL N j = some (.row true cs n lo sz e) ∧ lo ≤ n ∧ cs.length = n * sz
section
variable {H N N' L : Heap} {x y : C} {sz n m : Nat} {e : TypeId} {cs new : List C}
theorem OwnR.ns : OwnR H N .ns sz e 0 [] := .inl ⟨rfl, rfl, rfl⟩
theorem OwnR.num (h : OwnR H N x sz e n cs) : cs.length = n * sz := by
  rcases h with ⟨_, rfl, rfl⟩ | ⟨j, lo, _, _, _, h⟩
  · simp
  · exact h
theorem OwnR.len (h : OwnR H N x sz e n cs) : slen x = some n := by
  rcases h with ⟨rfl, rfl, rfl⟩ | ⟨j, lo, rfl, _⟩ <;> rfl
theorem OwnR.app (h : OwnR H N x sz e n cs) : OwnR H (appL N L) x sz e n cs := by
  rcases h with h | ⟨j, lo, h1, h2, h3⟩
  · exact .inl h
  · exact .inr ⟨j, lo, h1, getL_base h2, h3⟩
theorem OwnR.rows (h : OwnR H N x sz e n cs) : Rows (appL H N) x sz n cs := by
  rcases h with ⟨rfl, rfl, rfl⟩ | ⟨j, lo, rfl, h2, h3, h4⟩
  · exact Rows.ns
  · have := Rows.row (getL_own (H := H) h2) h4 h3 (Nat.le_refl _)
    rwa [List.take_of_length_le (by rw [h4]; exact Nat.le_refl _)] at this
end
section
variable {T : Tys} {call : CallF} {op : Op} {tm : List V} {H N L : Heap} {t t2 e : TypeId} {px py : Operand} {x y : C} {sz bb n m : Nat} {cs new : List C} {a1 a2 : Nat} {a3 : List C} {a4 : List PK} {kd : TK} {zz : List C} {ks : List PK} {b1 b2 : Nat} {b3 : List C} {b4 : List PK}
/-- One element, as a list of one. -/
theorem o_bsl {v : V} {ys : List C} (ho : op = .buildSlice t 1 #[(0, px)]) (hx : opnd tm px = some v) (hc : v.cells = some (sz, ys)) (ht : tyAt T t = some ⟨.sl e, a1, a2, a3, a4⟩) (he : tyAt T e = some ⟨kd, sz, bb, zz, ks⟩) (hz : zz.length = sz) (h1 : 1 ≤ sz) (h2 : sz ≤ 16777216) (hy : ys.length = sz) :
    evOp T call op tm (appL H N) = some (.c (.sl (H.length + N.length) 0 1 1), appL H (appL N [.row true ys 1 1 sz e])) := by
  subst ho
  have c1 : (Nat.ble 1 1 && Nat.ble 1 sz && Nat.ble (1 * sz) 16777216) = true := by simp [ble_eq]; omega
  have hs : splice (1 * sz) (many 1 zz) (0 * sz) sz ys = some ys := by
    unfold splice
    have : (Nat.beq (0 * sz) 0 && Nat.beq sz (1 * sz)) = true := by simp
    rw [this]; rfl
  have hf : fillC (fun i => some (i * sz, sz)) (1 * sz) [(0, v)] (many 1 zz) = some ys := by
    show (match some (0 * sz, sz), v.cells with
      | some (off, size), some (n, ys) => bif Nat.beq n size then match splice (1 * sz) (many 1 zz) off n ys with
        | some cs' => some cs'
        | none => none
        else none
      | _, _ => none) = _
    simp only [hc, Nat.beq_refl, cond_true, hs]
  have hp : parts tm [(0, px)] = some [(0, v)] := by
    show (match opnd tm px, parts tm [] with
      | some v, some vs => some ((0, v) :: vs)
      | _, _ => none) = _
    rw [hx]; rfl
  show (match parts tm [(0, px)] with
    | some vs => vbuildSlice T (appL H N) t 1 vs
    | none => none) = _
  rw [hp]
  show vbuildSlice T (appL H N) t 1 [(0, v)] = _
  unfold vbuildSlice
  simp only [ht, he, c1, cond_true, hf, len_app rfl, app_app rfl]
theorem Rows.fresh {ys : List C} (hy : ys.length = m * sz) {lo : Nat} (hl : lo ≤ m) : Rows (appL H (appL N [.row true ys m lo sz e])) (.sl (H.length + N.length) 0 m m) sz m ys := by
  have hg : getL (appL N [Bk.row true ys m lo sz e]) N.length = some (.row true ys m lo sz e) := getL_own (H := N) (j := 0) rfl
  have := Rows.row (getL_own (H := H) hg) hy hl (Nat.le_refl _)
  rwa [List.take_of_length_le (by rw [hy]; exact Nat.le_refl _)] at this
/-- Elements behind a list of one's own. -/
theorem o_app {as : Array Operand} {ts : Array TypeId} (ho : op = .call ⟨.builtin .append, as, ts⟩) (ha : opnds tm as.toList = some [.c x, .c y]) (hts : ts.toList = [t, t]) (ht : tyAt T t = some ⟨.sl e, a1, a2, a3, a4⟩) (he : tyAt T e = some ⟨kd, sz, bb, zz, ks⟩) (h1 : 1 ≤ sz) (h2 : 1 ≤ bb) (hO : OwnR H N x sz e n cs) (hr : Rows (appL H N) y sz m new) (hm : 0 ≤ m) (hb : (n + m) * bb ≤ 140737488355328) :
    ∃ x' N', evOp T call op tm (appL H N) = some (.c x', appL H N') ∧ OwnR H N' x' sz e (n + m) (cs ++ new) ∧ N.length ≤ N'.length ∧ x' ≠ .ns := by
  subst ho
  have hnew := hr.num
  have c1 : (Nat.ble 1 sz && Nat.ble 1 bb) = true := by simp [ble_eq]; omega
  have hrd := hr.rdSl
  have goal_ev : ∀ r, vappend T (appL H N) t t (.c x) (.c y) = r → evOp T call (.call ⟨.builtin .append, as, ts⟩) tm (appL H N) = r := fun r h => by
    show (match opnds tm as.toList, ts.toList with
      | some [s, x], [t, t2] => vappend T (appL H N) t t2 s x
      | _, _ => none) = _
    rw [ha, hts]; exact h
  rcases hO with ⟨rfl, rfl, rfl⟩ | ⟨j, lo, rfl, g1, g2, g3⟩
  · have c2 : Nat.ble (m * bb) 140737488355328 = true := by rw [ble_eq]; simp; simpa using hb
    have ev : vappend T (appL H N) t t (.c .ns) (.c y) = some (.c (.sl (H.length + N.length) 0 m m), appL H (appL N [.row true new m m sz e])) := by
      unfold vappend
      simp only [ht, he, Nat.beq_refl, Bool.not_true, cond_false, hrd, c1, cond_true, c2, len_app rfl, app_app rfl]
    refine ⟨.sl (H.length + N.length) 0 (0 + m) (0 + m), appL N [.row true new m m sz e], by rw [Nat.zero_add]; exact goal_ev _ ev, ?_, ?_⟩
    · refine .inr ⟨N.length, m, rfl, ?_, Nat.le_of_eq (Nat.zero_add m).symm, ?_⟩
      · rw [Nat.zero_add, List.nil_append]; exact getL_own (H := N) (j := 0) rfl
      · rw [Nat.zero_add, List.nil_append]; exact hnew
    · exact ⟨by rw [appL_eq]; simp, by simp⟩
  · have hg := getL_own (H := H) g1
    have hlt : j < N.length := by rw [getL_eq] at g1; exact (List.getElem?_eq_some_iff.1 g1).1
    have c2 : (Nat.beq 0 0 && Nat.beq n n && Nat.beq n n && Nat.beq sz sz && Nat.beq e e && Nat.ble ((n + m) * bb) 140737488355328) = true := by simp [ble_eq, hb]
    have hs : setL N (.row true (appL cs new) (n + m) lo sz e) j = some (N.set j (.row true (appL cs new) (n + m) lo sz e)) := setL_of _ _ _ hlt
    refine ⟨_, _, goal_ev (some (.c (.sl (H.length + j) 0 (n + m) (n + m)), appL H (N.set j (.row true (appL cs new) (n + m) lo sz e)))) ?_, .inr ⟨j, lo, rfl, ?_, by omega, ?_⟩, ?_⟩
    · unfold vappend
      simp only [ht, he, Nat.beq_refl, Bool.not_true, cond_false, hrd, c1, cond_true, hg]
      simp only [Nat.beq_refl] at c2
      rw [c2]
      simp only [cond_true, setL_own hs]
    · rw [getL_eq, appL_eq]; simp [hlt]
    · rw [List.length_append, g3, hnew, Nat.add_mul]
    · exact ⟨by simp, by simp⟩
theorem pS_app {ops l : List Oper} {o : Oper} {Q : List V → Heap → Prop} {as : Array Operand} {ts : Array TypeId} {tmf : C → List V} (hw : wantedE ops o tm = some true) (ho : o.op = .call ⟨.builtin .append, as, ts⟩) (ha : opnds tm as.toList = some [.c x, .c y]) (hp : ∀ x', putT tm o.dst (.c x') = some (tmf x')) (hts : ts.toList = [t, t]) (ht : tyAt T t = some ⟨.sl e, a1, a2, a3, a4⟩) (he : tyAt T e = some ⟨kd, sz, bb, zz, ks⟩) (h1 : 1 ≤ sz) (h2 : 1 ≤ bb) (hO : OwnR H N x sz e n cs) (hr : Rows (appL H N) y sz m new) (hm : 0 ≤ m) (hb : (n + m) * bb ≤ 140737488355328)
    (k : ∀ x' N', OwnR H N' x' sz e (n + m) (cs ++ new) → N.length ≤ N'.length ∧ x' ≠ .ns → pS T call ops l (tmf x') (appL H N') Q) : pS T call ops (o :: l) tm (appL H N) Q := by
  obtain ⟨x', N', ev, hO', hl⟩ := o_app (call := call) (tm := tm) ho ha hts ht he h1 h2 hO hr hm hb
  exact pS_op hw ev (hp x') (k x' N' hO' hl)
/-- A cell of a row. -/
theorem rd_q {H : Heap} {id off gen k lo : Nat} {c : C} {wr : Bool} (hg : getL H id = some (.row wr cs k lo sz e)) (hl : cs.length = k * sz) (h1 : lo ≤ gen) (h2 : gen ≤ k) (h3 : off + 1 ≤ gen * sz) (hc : cs[off]? = some c) : rdAt H (.q id off gen) 1 = some [c] := by
  have hle : gen * sz ≤ k * sz := Nat.mul_le_mul_right _ h2
  have c1 : (Nat.ble lo gen && Nat.ble (off + 1) (gen * sz)) = true := by simp [ble_eq, h1, h3]
  simp only [rdAt, hg, c1, cond_true]
  rw [sub_of hl (by omega), List.drop_eq_getElem_cons (by omega), (List.getElem?_eq_some_iff.1 hc).2]
  rfl
theorem o_ldQ {H : Heap} {id off gen k lo w : Nat} {c : C} {wr : Bool} {ti : TI} (ho : op = .load t px) (ha : opnd tm px = some (.c (.q id off gen))) (ht : tyAt T t = some ti) (hg : ti.agg = false) (hb : getL H id = some (.row wr cs k lo sz e)) (hl : cs.length = k * sz) (h1 : lo ≤ gen) (h2 : gen ≤ k) (hw : off = w) (h3 : w + 1 ≤ gen * sz) (hc : cs[w]? = some c) : evOp T call op tm H = some (.c c, H) := by
  subst hw
  exact o_ldA ho ha ht hg (rd_q hb hl h1 h2 h3 hc)
/-- A call that hands back a list of its own. -/
theorem vrow {call : CallF} {f : FuncId} {args : List V} (h : pF call f args (freeze H) fun u H' => ∃ N x, u = .c x ∧ H' = appL (freeze H) N ∧ OwnR (freeze H) N x sz e n cs) (hf : ∀ c ∈ cs, c.ref = none) :
    ∃ x M, Vc call f args H (.c x, appL H M) ∧ ((x = .ns ∧ M = [] ∧ n = 0 ∧ cs = []) ∨ ∃ lo, x = .sl H.length 0 n n ∧ M = [.row true cs n lo sz e] ∧ lo ≤ n ∧ cs.length = n * sz) := by
  obtain ⟨u, H', e1, N, x, rfl, rfl, hO⟩ := h
  rcases hO with ⟨rfl, rfl, rfl⟩ | ⟨j, lo, rfl, g1, g2, g3⟩
  · refine ⟨.ns, [], ⟨?_⟩, .inl ⟨rfl, rfl, rfl, rfl⟩⟩
    unfold vcall
    rw [e1]
    simp only [gc, V.refsQ_eq, V.refs, C.ref, Option.toList, List.filter_nil, appL_eq, List.append_nil]
  · refine ⟨_, _, ⟨?_⟩, .inr ⟨lo, rfl, rfl, g2, g3⟩⟩
    unfold vcall
    rw [e1]
    have hl : (freeze H).length = H.length := freeze_len
    have hfil : (V.c (C.sl ((freeze H).length + j) 0 n n)).refsQ.filter (fun id => Nat.ble H.length id) = [H.length + j] := by
      rw [V.refsQ_eq]
      have : Nat.ble H.length (H.length + j) = true := by rw [ble_eq]; simp
      simp only [V.refs, C.ref, Option.toList, hl, List.filter_cons, this, if_true, List.filter_nil]
    have hd : dropL (appL (freeze H) N) H.length = N := by
      rw [← hl]; exact dropL_app0 _ _
    have hj : H.length + j - H.length = j := by omega
    have hnr : (Bk.row true cs n lo sz e).cellsNoRef = true := by
      simp only [Bk.cellsNoRef, List.all_eq_true]
      intro c hc; rw [hf c hc]; rfl
    have hren : (V.c (C.sl ((freeze H).length + j) 0 n n)).ren (fun j => bif Nat.ble (j + 1) H.length then j else H.length) = V.c (C.sl H.length 0 n n) := by
      have : Nat.ble (H.length + j + 1) H.length = false := by rw [ble_eq]; simp; omega
      simp only [V.ren, C.ren, hl, this, cond_false]
    show some (gc H (V.c (C.sl ((freeze H).length + j) 0 n n)) (dropL (appL (freeze H) N) H.length)) = _
    rw [hd]
    unfold gc
    simp only [hfil, hj, g1, hnr, cond_true, hren]
theorem vrowS {call : CallF} {f : FuncId} {args : List V} (h : pF call f args (freeze H) fun u H' => ∃ N x, u = .c x ∧ H' = appL (freeze H) N ∧ OwnR (freeze H) N x sz e n cs ∧ x ≠ .ns) (hf : ∀ c ∈ cs, c.ref = none) :
    ∃ lo, Vc call f args H (.c (.sl H.length 0 n n), appL H [.row true cs n lo sz e]) ∧ lo ≤ n ∧ cs.length = n * sz := by
  obtain ⟨u, H', e1, N, x, rfl, rfl, hO, hne⟩ := h
  have h2 : pF call f args (freeze H) fun u H' => ∃ N x, u = .c x ∧ H' = appL (freeze H) N ∧ OwnR (freeze H) N x sz e n cs := ⟨_, _, e1, N, x, rfl, rfl, hO⟩
  obtain ⟨x2, M, hv, hh⟩ := vrow h2 hf
  rcases hh with ⟨rfl, rfl, rfl, rfl⟩ | ⟨lo, rfl, rfl, h3, h4⟩
  · exfalso
    rcases hO with ⟨rfl, _, _⟩ | ⟨j, lo, rfl, g1, g2, g3⟩
    · exact hne rfl
    · have := hv.out
      unfold vcall at this
      rw [e1] at this
      have hl : (freeze H).length = H.length := freeze_len
      have hfil : (V.c (C.sl ((freeze H).length + j) 0 0 0)).refsQ.filter (fun id => Nat.ble H.length id) = [H.length + j] := by
        rw [V.refsQ_eq]
        have : Nat.ble H.length (H.length + j) = true := by rw [ble_eq]; simp
        simp only [V.refs, C.ref, Option.toList, hl, List.filter_cons, this, if_true, List.filter_nil]
      have hd : dropL (appL (freeze H) N) H.length = N := by rw [← hl]; exact dropL_app0 _ _
      have hj : H.length + j - H.length = j := by omega
      have hnr : (Bk.row true [] 0 lo sz e).cellsNoRef = true := rfl
      simp only [hd, gc, hfil, hj, g1, hnr, cond_true, Option.some.injEq, Prod.mk.injEq] at this
      have h5 := this.1
      simp [V.ren, C.ren] at h5
  · exact ⟨lo, hv, h3, h4⟩
/-- A call that writes what it is handed. -/
theorem vwr {F : Fns} {K d : Nat} {W : Env} {f : FuncId} {args : List V} {v : V} {H1 : Heap} (hW : W.wr f = true) (h : pF (evW T F K W (d + 1)) f args H fun u H' => u = v ∧ H' = H1) : Vc (evW T F K W (d + 1)) f args H (v, H1) := by
  obtain ⟨u, H', e1, rfl, rfl⟩ := h
  refine ⟨?_⟩
  have hz : evW T F K W (d + 1) f args (freeze H) = none := by
    show guardW W.wr (hookW W.hook (ext W.pure (run1 T F K (evW T F K W d)))) f args (freeze H) = _
    unfold guardW
    have : frozenB (freeze H) = true := by simp [frozenB, freeze, frz_wr]
    rw [hW, this]; rfl
  unfold vcall
  rw [hz]
  exact e1
theorem frozen_no {H : Heap} {id : Nat} {b : Bk} (h : getL H id = some b) (hb : b.wr = true) : frozenB H = false := by
  rw [getL_eq] at h
  unfold frozenB
  rw [List.all_eq_false]
  exact ⟨b, List.mem_of_getElem? h, by simp [hb]⟩
/-- A function that writes what it is handed. -/
theorem pW_wr {F : Fns} {K d : Nat} {W : Env} {f : FuncId} {fn : Func} {c : Code} {args tm : List V} {H : Heap} {Q : V → Heap → Prop} (hz : frozenB H = false) (hg : W.pure f args = none) (hf : fnAt F f = some fn) (hc : fn.body = some c) (ht : appL args (List.replicate (fn.ntmps - args.length) (.c .un)) = tm)
    (h : pC T (evW T F K W d) K c ⟨tm, appL H []⟩ fun ex s => (∀ i, ex ≠ .exit i) ∧ ∃ v, res T fn s = some v ∧ Q v s.H) (hh : W.hook f args H = none := by rfl) : pF (evW T F K W (d + 1)) f args H Q := by
  have e : appL H [] = H := by simp [appL_eq]
  rw [e] at h
  exact pW_body (by rw [hz, Bool.and_false]) hg hf hc ht h hh
/-- One cell of a row, written. -/
theorem o_stQ {H H' : Heap} {id off gen k lo w : Nat} {c : C} {ti : TI} (ho : op = .store t px py) (ha : opnd tm px = some (.c (.q id off gen))) (hx : opnd tm py = some (.c c)) (hc : (V.c c).cells = some (1, [c])) (ht : tyAt T t = some ti) (hz : Nat.beq 1 ti.size = true) (hg : getL H id = some (.row true cs k lo sz e)) (hk : gen = k) (hl : cs.length = k * sz) (hw : off = w) (h3 : w < k * sz) (hs : setL H (.row true (cs.set w c) k k sz e) id = some H') : evOp T call op tm H = some (.c .un, H') := by
  subst ho; subst hk; subst hw
  have hsp : splice (gen * sz) cs off 1 [c] = some (cs.set off c) := by
    by_cases h1 : 1 < gen * sz
    · exact splice_one h1 hl h3
    · have e1 : gen * sz = 1 := by omega
      have e2 : off = 0 := by omega
      subst e2
      obtain ⟨c0, rfl⟩ := List.length_eq_one_iff.1 (hl.trans e1)
      rw [e1]
      rfl
  simp only [evOp, ha, hx, vstore, hc, ht, hz, cond_true, wrAt, hg, Nat.beq_refl, hsp, hs, Option.map_some]
/-- A list's beginning. -/
theorem o_slH {H : Heap} {id len gen n2 : Nat} {hi : Operand} {h : Int} {k : IntKind} (ho : op = .slice t px none (some hi) none) (hx : opnd tm px = some (.c (.sl id 0 len gen))) (hhi : opnd tm hi = some (.c (.i k h))) (ht : tyAt T t = some ⟨.sl e, a1, a2, a3, a4⟩) (he : tyAt T e = some ⟨kd, sz, bb, zz, ks⟩) (hz : 1 ≤ sz) (h0 : 0 ≤ h) (h1 : h ≤ len) (hn : h.toNat = n2) : evOp T call op tm H = some (.c (.sl id 0 n2 gen), H) := by
  subst ho; subst hn
  have c1 : inN h (len + 1) = true := by rw [inN_eq]; simp; omega
  have c2 : Nat.ble 1 sz = true := by rw [ble_eq]; simp; omega
  have hv : vslice T t (.c (.sl id 0 len gen)) none (some (.c (.i k h))) = some (.c (.sl id 0 h.toNat gen)) := by
    simp only [vslice, ht, he, bnds, c1, cond_true, c2, Nat.zero_mul, Nat.zero_add, Nat.sub_zero]
  simp only [evOp, hx, opndO, hhi, Option.map_some, hv]
theorem Rows.rowP {H : Heap} {id k lo gen m : Nat} {wr : Bool} {l : List UInt8} (hb : getL H id = some (.row wr (bytesC l) k lo 1 e)) (hl : l.length = k) (h1 : lo ≤ gen) (h2 : gen ≤ k) (h3 : m ≤ gen) : Rows H (.sl id 0 m gen) 1 m (bytesC (l.take m)) := by
  have h4 := Rows.row (n := gen) hb (by rw [bytesC_len, hl, Nat.mul_one]) h1 h2
  have h5 := h4.part (l := 0) (h := m) (Nat.zero_le _) h3 (.inl (by simp))
  simp only [subC, Nat.mul_one, Nat.zero_mul, Nat.add_zero, Nat.sub_zero, List.drop_zero] at h5
  rw [List.take_take, bytesC_take, Nat.min_eq_left h3] at h5
  exact h5
theorem getL_last {N : Heap} {b : Bk} : getL (appL N [b]) N.length = some b := getL_own (H := N) (j := 0) rfl
theorem setL_last {N : Heap} {b b' : Bk} : setL (appL N [b]) b' N.length = some (appL N [b']) := setL_own (H := N) (j := 0) rfl
/-- Bytes copied into a variable. -/
theorem o_copyB {H H' : Heap} {id m1 cap : Nat} {l r : List UInt8} {as : Array Operand} {ts : Array TypeId} (ho : op = .call ⟨.builtin .copy, as, ts⟩) (ha : opnds tm as.toList = some [.c (.va id 0 m1 cap), .c y]) (hts : ts.toList = [t, t2]) (ht : tyAt T t = some ⟨.sl e, a1, a2, a3, a4⟩) (he : tyAt T e = some ⟨kd, 1, bb, zz, ks⟩) (hr : Rows H y 1 m (bytesC r)) (hrl : r.length = m) (hb : getL H id = some (.var true m1 (bytesC l))) (hl : l.length = m1) (hm : 0 < m) (hm1 : 0 < m1) (hs : setL H (.var true m1 (bytesC (r.take (min m m1) ++ l.drop (min m m1)))) id = some H') : evOp T call op tm H = some (.c (.i .i64 (min m m1 : Nat)), H') := by
  subst ho
  have hrd := hr.rdSl
  have c0 : Nat.beq (Nat.min m m1) 0 = false := by rw [beq_eq]; simp [Nat.min_def]; split <;> omega
  have c1 : Nat.ble 1 1 = true := rfl
  have emin : Nat.min m m1 = min m m1 := rfl
  have hk : min m m1 ≤ m := Nat.min_le_left _ _
  have hk1 : min m m1 ≤ m1 := Nat.min_le_right _ _
  have htk : takeL (bytesC r) (Nat.min m m1 * 1) = some (bytesC (r.take (min m m1))) := by
    rw [emin, Nat.mul_one, takeL_of _ _ (by rw [bytesC_len]; omega), bytesC_take]
  have hsp : splice m1 (bytesC l) 0 (Nat.min m m1 * 1) (bytesC (r.take (min m m1))) = some (bytesC (r.take (min m m1) ++ l.drop (min m m1))) := by
    rw [emin, Nat.mul_one]
    unfold splice
    cases hc : (Nat.beq 0 0 && Nat.beq (min m m1) m1) with
    | true =>
      simp only [Nat.beq_refl, Bool.true_and] at hc
      have := beq_nat hc
      rw [cond_true, this, List.drop_eq_nil_of_le (by omega), List.append_nil]
    | false =>
      have hlt : (r.take (min m m1)).length = min m m1 := by rw [List.length_take]; exact Nat.min_eq_left (by rw [hrl]; exact hk)
      rw [cond_false, spliceL_of _ _ _ (by rw [bytesC_len, bytesC_len, hlt, hl, Nat.zero_add]; exact hk1)]
      rw [List.take_zero, List.nil_append, Nat.zero_add, bytesC_len, bytesC_drop, bytesC_app, hlt]
  have hv : vcopy T H t (.c (.va id 0 m1 cap)) (.c y) = some (.c (.i .i64 (min m m1 : Nat)), H') := by
    unfold vcopy
    simp only [ht, he, hrd, c1, cond_true, c0, cond_false, htk, wrAt, hb, hsp, hs]
  show (match opnds tm as.toList, ts.toList with
    | some [d, x], [t, _] => vcopy T H t d x
    | _, _ => none) = _
  rw [ha, hts]; exact hv
/-- A list from a place on. -/
theorem o_slL {H : Heap} {n : Nat} {lo : Operand} {l : Int} {k : IntKind} (ho : op = .slice t px (some lo) none none) (hx : opnd tm px = some (.c x)) (hlo : opnd tm lo = some (.c (.i k l))) (ht : tyAt T t = some ⟨.sl e, a1, a2, a3, a4⟩) (he : tyAt T e = some ⟨kd, sz, bb, zz, ks⟩) (hz : 1 ≤ sz) (hn : slen x = some n) (h0 : 0 ≤ l) (h1 : l ≤ n) (hne : x ≠ .ns) : evOp T call op tm H = some (.c (subC sz l.toNat n x), H) := by
  subst ho
  have c1 : inN l (n + 1) = true := by rw [inN_eq]; simp; omega
  have c2 : Nat.ble 1 sz = true := by rw [ble_eq]; simp; omega
  have hv : vslice T t (.c x) (some (.c (.i k l))) none = some (.c (subC sz l.toNat n x)) := by
    cases x <;> simp [slen] at hn
    · exact absurd rfl hne
    all_goals (subst hn; simp only [vslice, ht, he, bnds, c1, cond_true, c2, subC])
  simp only [evOp, hx, opndO, hlo, Option.map_some, hv]
end
end Go.Proofs.Ytgfeohklkinccaa.Pe
