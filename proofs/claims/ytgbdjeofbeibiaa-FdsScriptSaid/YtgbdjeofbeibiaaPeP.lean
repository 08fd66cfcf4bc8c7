/- A plain reading of the model's code: lists that are handed in, written, and gone on with. -/
import Derived.Test.YtgbdjeofbeibiaaPeO
set_option linter.unusedVariables false
namespace Go.Proofs.Ytgbdjeofbeibiaa.Pe
/-- A list x of n0 elements, and one, y, that goes on from it: n elements. -/
def OwnP (H N : Heap) (sz : Nat) (e : TypeId) (x : C) (n0 : Nat) (y : C) (n : Nat) (cs : List C) : Prop :=
  (x = .ns ∧ n0 = 0 ∧ OwnR H N y sz e n cs) ∨ ∃ j lo, x = .sl (H.length + j) 0 n0 n0 ∧ y = .sl (H.length + j) 0 n n ∧ getL N j = some (.row true cs n lo sz e) ∧ lo ≤ n0 ∧ n0 ≤ n ∧ cs.length = n * sz
/-- What a step that has to do with x, y leaves: all other blocks. -/
def KeepL (H N N' : Heap) (x y : C) : Prop := ∀ q b, getL N q = some b → (∀ u g, x ≠ .sl (H.length + q) 0 u g) → getL N' q = some b ∧ ∀ u g, y ≠ .sl (H.length + q) 0 u g
section
variable {H N N' L : Heap} {x y z : C} {sz n n0 m : Nat} {e : TypeId} {cs new : List C}
theorem OwnP.of (h : OwnR H N x sz e n cs) : OwnP H N sz e x n x n cs := by
  rcases h with ⟨rfl, rfl, rfl⟩ | ⟨j, lo, h1, h2, h3, h4⟩
  · exact .inl ⟨rfl, rfl, OwnR.ns⟩
  · exact .inr ⟨j, lo, h1, h1, h2, h3, Nat.le_refl _, h4⟩
theorem OwnP.own (h : OwnP H N sz e x n0 y n cs) : OwnR H N y sz e n cs := by
  rcases h with ⟨_, _, h⟩ | ⟨j, lo, h1, h2, h3, h4, h5, h6⟩
  · exact h
  · exact .inr ⟨j, lo, h2, h3, by omega, h6⟩
theorem OwnP.len (h : OwnP H N sz e x n0 y n cs) : slen x = some n0 := by
  rcases h with ⟨rfl, rfl, _⟩ | ⟨j, lo, rfl, _⟩ <;> rfl
theorem OwnP.le (h : OwnP H N sz e x n0 y n cs) : n0 ≤ n := by
  rcases h with ⟨_, rfl, _⟩ | ⟨j, lo, h1, h2, h3, h4, h5, h6⟩ <;> omega
theorem OwnP.rows0 (h : OwnP H N sz e x n0 y n cs) : Rows (appL H N) x sz n0 (cs.take (n0 * sz)) := by
  rcases h with ⟨rfl, rfl, _⟩ | ⟨j, lo, rfl, h2, h3, h4, h5, h6⟩
  · simp only [Nat.zero_mul, List.take_zero]; exact Rows.ns
  · exact Rows.row (getL_own (H := H) h3) h6 h4 h5
theorem OwnR.keep (h : OwnR H N x sz e n cs) (hk : ∀ q b u g, x = .sl (H.length + q) 0 u g → getL N q = some b → getL N' q = some b) : OwnR H N' x sz e n cs := by
  rcases h with h | ⟨j, lo, h1, h2, h3⟩
  · exact .inl h
  · exact .inr ⟨j, lo, h1, hk _ _ _ _ h1 h2, h3⟩
theorem OwnP.keep (h : OwnP H N sz e x n0 y n cs) (hk : ∀ q b u g, y = .sl (H.length + q) 0 u g → getL N q = some b → getL N' q = some b) : OwnP H N' sz e x n0 y n cs := by
  rcases h with ⟨h1, h2, h3⟩ | ⟨j, lo, h1, h2, h3, h4⟩
  · exact .inl ⟨h1, h2, h3.keep hk⟩
  · exact .inr ⟨j, lo, h1, h2, hk _ _ _ _ h2 h3, h4⟩
theorem OwnR.has (h : OwnR H N y sz e n cs) {q u g : Nat} (hy : y = .sl (H.length + q) 0 u g) : ∃ lo, getL N q = some (.row true cs n lo sz e) := by
  rcases h with ⟨rfl, _⟩ | ⟨j, lo, rfl, h2, _⟩
  · cases hy
  · simp only [C.sl.injEq] at hy
    have : j = q := by omega
    subst this
    exact ⟨lo, h2⟩
end
/-! ### operations -/
section
variable {T : Tys} {call : CallF} {op : Op} {tm : List V} {H N L : Heap} {t t2 e : TypeId} {px py : Operand} {x y z : C} {sz bb n n0 m : Nat} {cs new : List C} {a1 a2 : Nat} {a3 : List C} {a4 : List PK} {kd : TK} {zz : List C} {ks : List PK}
theorem o_appP {aa : Array Operand} {ts : Array TypeId} (ho : op = .call ⟨.builtin .append, aa, ts⟩) (ha : opnds tm aa.toList = some [.c y, .c z]) (hts : ts.toList = [t, t]) (ht : tyAt T t = some ⟨.sl e, a1, a2, a3, a4⟩) (he : tyAt T e = some ⟨kd, sz, bb, zz, ks⟩) (h1 : 1 ≤ sz) (h2 : 1 ≤ bb) (hO : OwnP H N sz e x n0 y n cs) (hr : Rows (appL H N) z sz m new) (hb : (n + m) * bb ≤ 140737488355328) :
    ∃ y' N', evOp T call op tm (appL H N) = some (.c y', appL H N') ∧ OwnP H N' sz e x n0 y' (n + m) (cs ++ new) ∧ N.length ≤ N'.length ∧ y' ≠ .ns ∧ KeepL H N N' y y' := by
  subst ho
  have hnew := hr.num
  have c1 : (Nat.ble 1 sz && Nat.ble 1 bb) = true := by simp [ble_eq]; omega
  have hrd := hr.rdSl
  have goal_ev : ∀ r, vappend T (appL H N) t t (.c y) (.c z) = r → evOp T call (.call ⟨.builtin .append, aa, ts⟩) tm (appL H N) = r := fun r h => by
    show (match opnds tm aa.toList, ts.toList with
      | some [s, x], [t, t2] => vappend T (appL H N) t t2 s x
      | _, _ => none) = _
    rw [ha, hts]; exact h
  have grow : ∀ j lo, y = .sl (H.length + j) 0 n n → getL N j = some (.row true cs n lo sz e) → cs.length = n * sz → ∃ N', evOp T call (.call ⟨.builtin .append, aa, ts⟩) tm (appL H N) = some (.c (.sl (H.length + j) 0 (n + m) (n + m)), appL H N') ∧ getL N' j = some (.row true (cs ++ new) (n + m) lo sz e) ∧ (cs ++ new).length = (n + m) * sz ∧ N.length ≤ N'.length ∧ KeepL H N N' y (.sl (H.length + j) 0 (n + m) (n + m)) := by
    rintro j lo rfl g1 g3
    have hg := getL_own (H := H) g1
    have hlt : j < N.length := by rw [getL_eq] at g1; exact (List.getElem?_eq_some_iff.1 g1).1
    have c2 : (Nat.beq 0 0 && Nat.beq n n && Nat.beq n n && Nat.beq sz sz && Nat.beq e e && Nat.ble ((n + m) * bb) 140737488355328) = true := by simp [ble_eq, hb]
    have hs : setL N (.row true (appL cs new) (n + m) lo sz e) j = some (N.set j (.row true (appL cs new) (n + m) lo sz e)) := setL_of _ _ _ hlt
    refine ⟨_, goal_ev (some (.c (.sl (H.length + j) 0 (n + m) (n + m)), appL H (N.set j (.row true (appL cs new) (n + m) lo sz e)))) ?_, ?_, ?_, by simp, fun q b hq hb2 => ?_⟩
    · unfold vappend
      simp only [ht, he, Nat.beq_refl, Bool.not_true, cond_false, hrd, c1, cond_true, hg]
      simp only [Nat.beq_refl] at c2
      rw [c2]
      simp only [cond_true, setL_own hs]
    · rw [getL_eq, appL_eq]; simp [hlt]
    · rw [List.length_append, g3, hnew, Nat.add_mul]
    · have e0 : j ≠ q := fun e => hb2 n n (by rw [e])
      refine ⟨?_, fun m g e1 => ?_⟩
      · rw [getL_eq] at hq ⊢
        rw [List.getElem?_set, if_neg e0]
        exact hq
      · simp only [C.sl.injEq] at e1
        omega
  rcases hO with ⟨rfl, rfl, hO⟩ | ⟨j, lo, rfl, hy, g1, g2, g3, g4⟩
  · rcases hO with ⟨rfl, rfl, rfl⟩ | ⟨j, lo, hy, g1, g2, g3⟩
    · have c2 : Nat.ble (m * bb) 140737488355328 = true := by rw [ble_eq]; simp; simpa using hb
      have ev : vappend T (appL H N) t t (.c .ns) (.c z) = some (.c (.sl (H.length + N.length) 0 m m), appL H (appL N [.row true new m m sz e])) := by
        unfold vappend
        simp only [ht, he, Nat.beq_refl, Bool.not_true, cond_false, hrd, c1, cond_true, c2, len_app rfl, app_app rfl]
      refine ⟨.sl (H.length + N.length) 0 (0 + m) (0 + m), appL N [.row true new m m sz e], by rw [Nat.zero_add]; exact goal_ev _ ev, .inl ⟨rfl, rfl, .inr ⟨N.length, m, rfl, ?_, Nat.le_of_eq (Nat.zero_add m).symm, ?_⟩⟩, by rw [appL_eq]; simp, by simp, fun q b hq _ => ⟨getL_base hq, fun m g e0 => ?_⟩⟩
      · rw [Nat.zero_add, List.nil_append]; exact getL_own (H := N) (j := 0) rfl
      · rw [Nat.zero_add, List.nil_append]; exact hnew
      · have h1 : q < N.length := by rw [getL_eq] at hq; exact (List.getElem?_eq_some_iff.1 hq).1
        simp only [C.sl.injEq] at e0
        omega
    · obtain ⟨N', e1, e2, e3, e4, e5⟩ := grow j lo hy g1 g3
      exact ⟨_, N', e1, .inl ⟨rfl, rfl, .inr ⟨j, lo, rfl, e2, by omega, e3⟩⟩, e4, by simp, e5⟩
  · obtain ⟨N', e1, e2, e3, e4, e5⟩ := grow j lo hy g1 g4
    exact ⟨_, N', e1, .inr ⟨j, lo, rfl, rfl, e2, g2, by omega, e3⟩, e4, by simp, e5⟩
theorem pS_appP {ops l : List Oper} {o : Oper} {Q : List V → Heap → Prop} {aa : Array Operand} {ts : Array TypeId} {tmf : C → List V} (hw : wantedE ops o tm = some true) (ho : o.op = .call ⟨.builtin .append, aa, ts⟩) (ha : opnds tm aa.toList = some [.c y, .c z]) (hp : ∀ x', putT tm o.dst (.c x') = some (tmf x')) (hts : ts.toList = [t, t]) (ht : tyAt T t = some ⟨.sl e, a1, a2, a3, a4⟩) (he : tyAt T e = some ⟨kd, sz, bb, zz, ks⟩) (h1 : 1 ≤ sz) (h2 : 1 ≤ bb) (hO : OwnP H N sz e x n0 y n cs) (hr : Rows (appL H N) z sz m new) (hb : (n + m) * bb ≤ 140737488355328)
    (k : ∀ y' N', OwnP H N' sz e x n0 y' (n + m) (cs ++ new) → N.length ≤ N'.length ∧ y' ≠ .ns ∧ KeepL H N N' y y' → pS T call ops l (tmf y') (appL H N') Q) : pS T call ops (o :: l) tm (appL H N) Q := by
  obtain ⟨y', N', ev, hO', hl⟩ := o_appP (call := call) (tm := tm) ho ha hts ht he h1 h2 hO hr hb
  exact pS_op hw ev (hp y') (k y' N' hO' hl)
/-- An element stored into a list of one's own. -/
theorem o_stO {ti : TI} {i w : Nat} {v : V} {ys cs' : List C} (ho : op = .store t px py) (ha : opnd tm px = some (.c (satC sz w x))) (hx : opnd tm py = some v) (hc : v.cells = some (sz, ys)) (ht : tyAt T t = some ti) (hz : Nat.beq sz ti.size = true) (hO : OwnR H N x sz e n cs) (hi : w = i) (hin : i < n) (hsp : splice (n * sz) cs (i * sz) sz ys = some cs') (hcl : cs'.length = cs.length) :
    ∃ N', evOp T call op tm (appL H N) = some (.c .un, appL H N') ∧ OwnR H N' x sz e n cs' ∧ KeepL H N N' x x := by
  subst ho; subst hi
  rcases hO with ⟨rfl, rfl, rfl⟩ | ⟨j, lo, rfl, g1, g2, g3⟩
  · omega
  · have hg := getL_own (H := H) g1
    have hlt : j < N.length := by rw [getL_eq] at g1; exact (List.getElem?_eq_some_iff.1 g1).1
    have hs : setL N (.row true cs' n n sz e) j = some (N.set j (.row true cs' n n sz e)) := setL_of _ _ _ hlt
    refine ⟨N.set j (.row true cs' n n sz e), ?_, .inr ⟨j, n, rfl, ?_, Nat.le_refl _, by rw [hcl, g3]⟩, fun q b hq hb2 => ?_⟩
    · simp only [satC, Nat.zero_add] at ha
      have hv : vstore T (appL H N) t (.c (.q (H.length + j) (w * sz) n)) v = some (appL H (N.set j (.row true cs' n n sz e))) := by
        simp only [vstore, hc, ht, hz, cond_true, wrAt, hg, Nat.beq_refl, hsp, setL_own hs]
      simp only [evOp, ha, hx, hv, Option.map_some]
    · rw [getL_eq]; simp [hlt]
    · have e0 : j ≠ q := fun e => hb2 n n (by rw [e])
      refine ⟨?_, fun m g e1 => ?_⟩
      · rw [getL_eq] at hq ⊢
        rw [List.getElem?_set, if_neg e0]
        exact hq
      · simp only [C.sl.injEq] at e1
        omega
theorem pS_stO {ops l : List Oper} {o : Oper} {Q : List V → Heap → Prop} {ti : TI} {i w : Nat} {v : V} {ys cs' : List C} {tm' : List V} (hw : wantedE ops o tm = some true) (ho : o.op = .store t px py) (ha : opnd tm px = some (.c (satC sz w x))) (hx : opnd tm py = some v) (hc : v.cells = some (sz, ys)) (hp : putT tm o.dst (.c .un) = some tm') (ht : tyAt T t = some ti) (hz : Nat.beq sz ti.size = true) (hO : OwnR H N x sz e n cs) (hi : w = i) (hin : i < n) (hsp : splice (n * sz) cs (i * sz) sz ys = some cs') (hcl : cs'.length = cs.length)
    (k : ∀ N', OwnR H N' x sz e n cs' → KeepL H N N' x x → pS T call ops l tm' (appL H N') Q) : pS T call ops (o :: l) tm (appL H N) Q := by
  obtain ⟨N', ev, hO', hl⟩ := o_stO (call := call) (tm := tm) ho ha hx hc ht hz hO hi hin hsp hcl
  exact pS_op hw ev hp (k N' hO' hl)
end
/-! ### some lists at once -/
def upd {α : Type} (f : Nat → α) (k : Nat) (a : α) : Nat → α := fun j => if j = k then a else f j
theorem upd_at {α : Type} {f : Nat → α} {k : Nat} {a : α} : upd f k a k = a := if_pos rfl
theorem upd_ne {α : Type} {f : Nat → α} {k j : Nat} {a : α} (h : j ≠ k) : upd f k a j = f j := if_neg h
structure Fam (H N : Heap) (sz : Nat) (e : TypeId) (m : Nat) (X : Nat → C) (n0 : Nat → Nat) (G : Nat → C) (n : Nat → Nat) (CS : Nat → List C) : Prop where
  own : ∀ j, j < m → OwnP H N sz e (X j) (n0 j) (G j) (n j) (CS j)
  apt : ∀ i j, i < m → j < m → i ≠ j → ∀ q u g, G i = .sl (H.length + q) 0 u g → ∀ u' g', G j ≠ .sl (H.length + q) 0 u' g'
section
variable {H N N' : Heap} {x' : C} {sz m n' k : Nat} {e : TypeId} {cs' : List C} {X G : Nat → C} {n0 n : Nat → Nat} {CS : Nat → List C}
/-- A block of another kind is none of theirs. -/
theorem Fam.ne (h : Fam H N sz e m X n0 G n CS) (hk : k < m) {q : Nat} {b : Bk} (hb : getL N q = some b) (hne : ∀ c n lo, b ≠ .row true c n lo sz e) : ∀ u g, G k ≠ .sl (H.length + q) 0 u g := fun u g e0 => by
  obtain ⟨lo, e1⟩ := (h.own k hk).own.has e0
  rw [hb] at e1
  cases e1
  exact hne _ _ _ rfl
theorem Fam.upd (h : Fam H N sz e m X n0 G n CS) (hk : k < m) (h2 : OwnP H N' sz e (X k) (n0 k) x' n' cs') (kp : KeepL H N N' (G k) x') : Fam H N' sz e m X n0 (Pe.upd G k x') (Pe.upd n k n') (Pe.upd CS k cs') := by
  refine ⟨fun j hj => ?_, fun i j hi hj hij q u g hG u' g' hG' => ?_⟩
  · by_cases c : j = k
    · subst c; rw [upd_at, upd_at, upd_at]; exact h2
    · rw [upd_ne c, upd_ne c, upd_ne c]
      exact (h.own j hj).keep fun q b u g e1 e2 => (kp q b e2 (fun u' g' e3 => h.apt j k hj hk c q u g e1 u' g' e3)).1
  · by_cases c : i = k
    · subst c
      rw [upd_at] at hG
      rw [upd_ne (Ne.symm hij)] at hG'
      obtain ⟨lo, e1⟩ := (h.own j hj).own.has hG'
      exact (kp q _ e1 (fun u2 g2 e3 => h.apt j i hj hi (Ne.symm hij) q u' g' hG' u2 g2 e3)).2 u g hG
    · rw [upd_ne c] at hG
      by_cases c2 : j = k
      · subst c2
        rw [upd_at] at hG'
        obtain ⟨lo, e1⟩ := (h.own i hi).own.has hG
        exact (kp q _ e1 (fun u2 g2 e3 => h.apt i j hi hj hij q u g hG u2 g2 e3)).2 u' g' hG'
      · rw [upd_ne c2] at hG'
        exact h.apt i j hi hj hij q u g hG u' g' hG'
/-- .. a step that has to do with none of them. -/
theorem Fam.keep (h : Fam H N sz e m X n0 G n CS) (kp : ∀ q c n lo, getL N q = some (.row true c n lo sz e) → getL N' q = some (.row true c n lo sz e)) : Fam H N' sz e m X n0 G n CS :=
  ⟨fun j hj => (h.own j hj).keep fun q b u g e1 e2 => by
    obtain ⟨lo, e3⟩ := (h.own j hj).own.has e1
    rw [e3] at e2
    cases e2
    exact kp _ _ _ _ e3, h.apt⟩
end
/-- A call that writes what it is handed: what it leaves is not told. -/
theorem vwrE {T : Tys} {F : Fns} {K d : Nat} {W : Env} {f : FuncId} {args : List V} {v : V} {H : Heap} (hW : W.wr f = true) (h : pF (evW T F K W (d + 1)) f args H fun u _ => u = v) : ∃ H1, Vc (evW T F K W (d + 1)) f args H (v, H1) := by
  obtain ⟨u, H', e1, rfl⟩ := h
  exact ⟨H', vwr hW ⟨_, _, e1, rfl, rfl⟩⟩
end Go.Proofs.Ytgbdjeofbeibiaa.Pe
