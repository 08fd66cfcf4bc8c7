/- Tables of descriptors: what is alike for all. -/
import Derived.Test.YtgbdjeofbeibiaaPeP2
import Derived.Test.YtgbdjeofbeibiaaPeT
import Derived.Test.YtgbdjeofbeibiaaPeK
import Derived.Test.YtgbdjeofbeibiaaSlbPick
set_option linter.unusedVariables false
namespace Go.Proofs.Ytgbdjeofbeibiaa.Pe
set_option maxRecDepth 10000
set_option maxHeartbeats 4000000
/-! ### a part of an element, where it lies -/
def fldC (o : Nat) : C → C
  | .p id off => .p id (off + o)
  | .q id off g => .q id (off + o) g
  | c => c
def isA : C → Bool
  | .p _ _ => true
  | .q _ _ _ => true
  | _ => false
theorem isA_sat {x : C} {n sz i : Nat} (h : slen x = some n) (hn : 0 < n) : isA (satC sz i x) = true := by
  cases x <;> simp [slen] at h <;> first | rfl | (subst h; omega)
theorem isA_fld {x : C} {o : Nat} (h : isA x = true) : isA (fldC o x) = true := by
  cases x <;> first | rfl | exact h
section
variable {T : Tys} {call : CallF} {op : Op} {tm : List V} {H N : Heap} {t ft : TypeId} {px py : Operand} {x : C}
theorem o_faS {f o : Nat} {fs : List (Nat × TypeId)} {a1 a2 : Nat} {a3 : List C} {a4 : List PK} {fi : TI} (ho : op = .fieldAddr t px f) (hx : opnd tm px = some (.c x)) (ht : tyAt T t = some ⟨.st fs, a1, a2, a3, a4⟩) (hf : getL fs f = some (o, ft)) (he : tyAt T ft = some fi) (hz : Nat.beq fi.size 0 = false) (ha : isA x = true) : evOp T call op tm H = some (.c (fldC o x), H) := by
  subst ho
  have hv : vfieldAddr T t (.c x) f = some (.c (fldC o x)) := by
    cases x <;> first | (simp only [vfieldAddr, ht, hf, he, hz, cond_false, fldC]; done) | cases ha
  simp only [evOp, hx, hv, Option.map_some]
theorem o_nilc (ho : op = .nilCheck px) (hx : opnd tm px = some (.c x)) (ha : isA x = true) : evOp T call op tm H = some (.c x, H) := by
  subst ho
  cases x <;> first | (simp only [evOp, hx]; done) | cases ha
theorem o_eqnp {p} {a1 a2 : Nat} {a3 : List C} {a4 : List PK} (ho : op = .binOp .eql t px py p) (hx : opnd tm px = some (.c x)) (hy : opnd tm py = some (.c .np)) (ht : tyAt T t = some ⟨.ptr, a1, a2, a3, a4⟩) (ha : isA x = true) : evOp T call op tm H = some (.c (.b false), H) := by
  subst ho
  cases x <;> first | (simp only [evOp, hx, hy, vbin, ht, Option.map_some]; done) | cases ha
end
theorem rd_qs {H : Heap} {id off gen k lo z sz : Nat} {e : TypeId} {cs ys : List C} {wr : Bool} (hg : getL H id = some (.row wr cs k lo sz e)) (hl : cs.length = k * sz) (h1 : lo ≤ gen) (h2 : gen ≤ k) (h3 : off + z ≤ gen * sz) (hc : (cs.drop off).take z = ys) : rdAt H (.q id off gen) z = some ys := by
  have hle : gen * sz ≤ k * sz := Nat.mul_le_mul_right _ h2
  have c1 : (Nat.ble lo gen && Nat.ble (off + z) (gen * sz)) = true := by simp [ble_eq, h1, h3]
  simp only [rdAt, hg, c1, cond_true]
  rw [sub_of hl (by omega), hc]
/-- What a call hands back that names blocks that were there. -/
theorem vold {call : CallF} {f : FuncId} {args : List V} {H : Heap} {v : V} (h : pF call f args (freeze H) (Ret (freeze H) v)) (hv : ∀ id ∈ v.refs, id < H.length) : Vc call f args H (v, H) := by
  refine ⟨?_⟩
  obtain ⟨u, H', e, rfl, N, rfl⟩ := h
  unfold vcall
  rw [e]
  have hfil : u.refsQ.filter (fun id => Nat.ble H.length id) = [] := by
    rw [V.refsQ_eq, List.filter_eq_nil_iff]
    intro id hid
    have := hv id hid
    rw [ble_eq]; simp; omega
  simp only [gc, hfil]
theorem splice_mid {A B R ys : List C} {m off z : Nat} (hA : A.length = off) (hB : B.length = z) (hy : ys.length = z) (hm : m = off + z + R.length) : splice m (A ++ B ++ R) off z ys = some (A ++ ys ++ R) := by
  unfold splice
  cases hc : (Nat.beq off 0 && Nat.beq z m) with
  | true =>
    simp only [Bool.and_eq_true] at hc
    have h0 := beq_nat hc.1
    have h1 := beq_nat hc.2
    have e1 : A = [] := List.length_eq_zero_iff.1 (by omega)
    have e2 : R = [] := List.length_eq_zero_iff.1 (by omega)
    subst e1 e2
    simp
  | false =>
    rw [cond_false, spliceL_of _ _ _ (by simp only [List.length_append]; omega)]
    congr 1
    subst hA
    rw [hy, ← hB]
    simp [List.append_assoc]
/-- Some cells of an element stored into a list of one's own. -/
theorem pS_stS {T : Tys} {call : CallF} {tm tm' : List V} {H N : Heap} {t e : TypeId} {px py : Operand} {x : C} {sz n m : Nat} {cs cs' ys : List C} {ops l : List Oper} {o : Oper} {Q : List V → Heap → Prop} {ti : TI} {i w w2 : Nat} {v : V} (hw : wantedE ops o tm = some true) (ho : o.op = .store t px py) (ha : opnd tm px = some (.c (fldC w2 (satC sz w x)))) (hx : opnd tm py = some v) (hc : v.cells = some (m, ys)) (hp : putT tm o.dst (.c .un) = some tm') (ht : tyAt T t = some ti) (hz : Nat.beq m ti.size = true) (hO : OwnR H N x sz e n cs) (hi : w * sz + w2 = i) (hn : 0 < n) (hsp : splice (n * sz) cs i m ys = some cs') (hcl : cs'.length = cs.length)
    (k : ∀ N', OwnR H N' x sz e n cs' → KeepL H N N' x x → pS T call ops l tm' (appL H N') Q) : pS T call ops (o :: l) tm (appL H N) Q := by
  subst hi
  rcases hO with ⟨rfl, rfl, rfl⟩ | ⟨j, lo, rfl, g1, g2, g3⟩
  · omega
  · have hg := getL_own (H := H) g1
    have hlt : j < N.length := by rw [getL_eq] at g1; exact (List.getElem?_eq_some_iff.1 g1).1
    have hs : setL N (.row true cs' n n sz e) j = some (N.set j (.row true cs' n n sz e)) := setL_of _ _ _ hlt
    simp only [satC, fldC, Nat.zero_add] at ha
    have hv : vstore T (appL H N) t (.c (.q (H.length + j) (w * sz + w2) n)) v = some (appL H (N.set j (.row true cs' n n sz e))) := by
      simp only [vstore, hc, ht, hz, cond_true, wrAt, hg, Nat.beq_refl, hsp, setL_own hs]
    have hev : evOp T call o.op tm (appL H N) = some (.c .un, appL H (N.set j (.row true cs' n n sz e))) := by rw [ho]; simp only [evOp, ha, hx, hv, Option.map_some]
    refine pS_op hw hev hp (k _ (.inr ⟨j, n, rfl, ?_, Nat.le_refl _, by rw [hcl, g3]⟩) fun q b hq hb2 => ?_)
    · rw [getL_eq]; simp [hlt]
    · have e0 : j ≠ q := fun e => hb2 n n (by rw [e])
      refine ⟨?_, fun m g e1 => ?_⟩
      · rw [getL_eq] at hq ⊢
        rw [List.getElem?_set, if_neg e0]
        exact hq
      · simp only [C.sl.injEq] at e1
        omega
theorem own_ids {H N : Heap} {x : C} {sz n i : Nat} {e : TypeId} {cs : List C} (h : OwnR H N x sz e n cs) : ∀ id ∈ (V.c (satC sz i x)).refs, id < (appL H N).length := by
  intro id hid
  rcases h with ⟨rfl, _, _⟩ | ⟨j, lo, rfl, g1, _⟩
  · simp [V.refs, satC, C.ref] at hid
  · have hlt : j < N.length := by rw [getL_eq] at g1; exact (List.getElem?_eq_some_iff.1 g1).1
    simp [V.refs, satC, C.ref] at hid
    rw [hid, appL_eq, List.length_append]; omega
theorem own_var {H N : Heap} {x : C} {sz n q m : Nat} {e : TypeId} {cs cs1 : List C} {wr : Bool} (h : OwnR H N x sz e n cs) (hg : getL N q = some (.var wr m cs1)) : ∀ u g, x ≠ .sl (H.length + q) 0 u g := fun u g e1 => by
  obtain ⟨lo, e2⟩ := h.has e1
  rw [hg] at e2; cases e2
theorem vbox {call : CallF} {f : FuncId} {args : List V} {H : Heap} {m : Nat} {cs : List C} (h : pF call f args (freeze H) fun u H' => u = .c (.p (freeze H).length 0) ∧ H' = appL (freeze H) [.var true m cs]) : Vc call f args H (.c (.p H.length 0), appL H [.var true m cs]) := by
  obtain ⟨u, H', e1, rfl, rfl⟩ := h
  refine ⟨?_⟩
  unfold vcall
  rw [e1]
  have hl : (freeze H).length = H.length := freeze_len
  have hfil : (V.c (C.p ((freeze H).length) 0)).refsQ.filter (fun id => Nat.ble H.length id) = [H.length] := by
    rw [V.refsQ_eq]
    have : Nat.ble H.length H.length = true := by rw [ble_eq]; simp
    simp only [V.refs, C.ref, Option.toList, hl, List.filter_cons, this, if_true, List.filter_nil]
  have hd : dropL (appL (freeze H) [.var true m cs]) H.length = [.var true m cs] := by
    rw [← hl]; exact dropL_app0 _ _
  show some (gc H (V.c (C.p ((freeze H).length) 0)) (dropL (appL (freeze H) [.var true m cs]) H.length)) = _
  rw [hd]
  unfold gc
  have hg : getL ([.var true m cs] : Heap) (H.length - H.length) = some (.var true m cs) := by rw [Nat.sub_self]; rfl
  rw [hl] at hfil ⊢
  simp only [hfil, hg]
theorem vboxF {call : CallF} {f g : FuncId} {args : List V} {H : Heap} {m : Nat} {cs : List C} (h : pF call f args (freeze H) fun u H' => u = .c (.fv g (freeze H).length) ∧ H' = appL (freeze H) [.var true m cs]) : Vc call f args H (.c (.fv g H.length), appL H [.var true m cs]) := by
  obtain ⟨u, H', e1, rfl, rfl⟩ := h
  refine ⟨?_⟩
  unfold vcall
  rw [e1]
  have hl : (freeze H).length = H.length := freeze_len
  have hfil : (V.c (C.fv g ((freeze H).length))).refsQ.filter (fun id => Nat.ble H.length id) = [H.length] := by
    rw [V.refsQ_eq]
    have : Nat.ble H.length H.length = true := by rw [ble_eq]; simp
    simp only [V.refs, C.ref, Option.toList, hl, List.filter_cons, this, if_true, List.filter_nil]
  have hd : dropL (appL (freeze H) [.var true m cs]) H.length = [.var true m cs] := by
    rw [← hl]; exact dropL_app0 _ _
  show some (gc H (V.c (C.fv g ((freeze H).length))) (dropL (appL (freeze H) [.var true m cs]) H.length)) = _
  rw [hd]
  unfold gc
  have hg : getL ([.var true m cs] : Heap) (H.length - H.length) = some (.var true m cs) := by rw [Nat.sub_self]; rfl
  rw [hl] at hfil ⊢
  simp only [hfil, hg]
theorem own_rd {H N : Heap} {x : C} {sz n i z : Nat} {e : TypeId} {cs ys : List C} (h : OwnR H N x sz e n cs) (hi : i < n) (hz : z = sz) (hc : (cs.drop (i * sz)).take z = ys) : rdAt (appL H N) (satC sz i x) z = some ys := by
  subst hz
  rcases h with ⟨rfl, h1, _⟩ | ⟨j, lo, rfl, h2, h3, h4⟩
  · omega
  · simp only [satC, Nat.zero_add]
    refine rd_qs (getL_own h2) h4 h3 (Nat.le_refl _) ?_ hc
    have : (i + 1) * z ≤ n * z := Nat.mul_le_mul_right _ hi
    rw [Nat.add_mul, Nat.one_mul] at this
    exact this
theorem cellP_len (p : Bool × C) : (cellP p).length = 2 := rfl
theorem cellsP_split {l : List (Bool × C)} {i : Nat} {p : Bool × C} (h : l[i]? = some p) (q : Bool × C) : cellsP l = cellsP (l.take i) ++ cellP p ++ cellsP (l.drop (i + 1)) ∧ cellsP (l.set i q) = cellsP (l.take i) ++ cellP q ++ cellsP (l.drop (i + 1)) ∧ (cellsP (l.take i)).length = i * 2 ∧ l.length * 2 = i * 2 + 2 + (cellsP (l.drop (i + 1))).length := by
  have hlt := (List.getElem?_eq_some_iff.1 h).1
  have e : l = l.take i ++ p :: l.drop (i + 1) := by
    rw [← (List.getElem?_eq_some_iff.1 h).2, ← List.drop_eq_getElem_cons hlt, List.take_append_drop]
  have e2 : l.set i q = l.take i ++ q :: l.drop (i + 1) := by rw [List.set_eq_take_append_cons_drop, if_pos hlt]
  refine ⟨?_, ?_, ?_, ?_⟩
  · conv => lhs; rw [e, cellsP_app]
    simp [cellsP]
  · rw [e2, cellsP_app]; simp [cellsP]
  · rw [cellsP_len, List.length_take]; omega
  · rw [cellsP_len, List.length_drop]; omega
theorem cellsP_set {l : List (Bool × C)} {i : Nat} {p : Bool × C} (h : l[i]? = some p) (q : Bool × C) : splice (l.length * 2) (cellsP l) (i * 2) 2 (cellP q) = some (cellsP (l.set i q)) := by
  obtain ⟨e1, e2, e3, e4⟩ := cellsP_split h q
  rw [e1, e2]
  exact splice_mid e3 rfl rfl e4
theorem cellsP_val {l : List (Bool × C)} {i : Nat} {b : Bool} {x : C} (h : l[i]? = some (b, x)) (a : C) : splice (l.length * 2) (cellsP l) (i * 2 + 1) 1 [a] = some (cellsP (l.set i (b, a))) := by
  obtain ⟨e1, e2, e3, e4⟩ := cellsP_split h (b, a)
  have f : ∀ z : C, cellsP (l.take i) ++ cellP (b, z) ++ cellsP (l.drop (i + 1)) = (cellsP (l.take i) ++ [.b b]) ++ [z] ++ cellsP (l.drop (i + 1)) := fun z => by simp [cellP]
  rw [e1, e2, f, f]
  exact splice_mid (by rw [List.length_append, e3]; rfl) rfl rfl (by omega)
/-- What can be read of a table's cells. -/
structure CellRd (B : Heap) (y : C) (l : List (Bool × C)) : Prop where
  len : slen y = some l.length
  opn : ∀ (i : Nat) (p : Bool × C), l[i]? = some p → rdAt B (fldC 0 (satC 2 i y)) 1 = some [.b p.1]
  val : ∀ (i : Nat) (p : Bool × C), l[i]? = some p → rdAt B (fldC 1 (satC 2 i y)) 1 = some [p.2]
theorem CellRd.app {B L : Heap} {y : C} {l : List (Bool × C)} (h : CellRd B y l) : CellRd (appL B L) y l := ⟨h.len, fun i p e => rdAt_app (h.opn i p e), fun i p e => rdAt_app (h.val i p e)⟩
theorem CellRd.frz {B : Heap} {y : C} {l : List (Bool × C)} (h : CellRd B y l) : CellRd (freeze B) y l := ⟨h.len, fun i p e => rdAt_frz (h.opn i p e), fun i p e => rdAt_frz (h.val i p e)⟩
theorem CellRd.of {H N : Heap} {y : C} {e : TypeId} {l : List (Bool × C)} (h : OwnR H N y 2 e l.length (cellsP l)) : CellRd (appL H N) y l := by
  refine ⟨h.len, fun i p hp => ?_, fun i p hp => ?_⟩
  all_goals
    have hlt := (List.getElem?_eq_some_iff.1 hp).1
    obtain ⟨R, hR⟩ := cellsP_at hp
    rcases h with ⟨rfl, h1, _⟩ | ⟨j, lo, rfl, h2, h3, h4⟩
    · omega
    · simp only [satC, fldC, Nat.zero_add]
      refine rd_qs (getL_own h2) h4 h3 (Nat.le_refl _) (by omega) ?_
      first
        | (rw [Nat.add_zero, hR]; rfl)
        | (rw [← List.drop_drop, hR]; rfl)
/-- A table. -/
def tabB (wr : Bool) (most held : Int) (y : C) : Bk := .var wr 4 [.b true, .i .i64 most, .i .i64 held, y]
/-! ### what a step leaves -/
/-- A list lies in a block of one's own. -/
def At (H : Heap) (y : C) (q : Nat) : Prop := ∃ u g, y = .sl (H.length + q) 0 u g
/-- All blocks but a variable and a row stay, and the new row is none of them. -/
def KeepU (H N N' : Heap) (tq : Nat) (y y' : C) : Prop := ∀ q b, getL N q = some b → q ≠ tq → ¬ At H y q → getL N' q = some b ∧ ¬ At H y' q
section
variable {H N N' N'' L : Heap} {tq : Nat} {y y' y'' : C}
theorem KeepU.trans (h : KeepU H N N' tq y y') (k : KeepU H N' N'' tq y' y'') : KeepU H N N'' tq y y'' := fun q b hq hne hy => by
  obtain ⟨h1, h2⟩ := h q b hq hne hy
  exact k q b h1 hne h2
theorem KeepU.app : KeepU H N (appL N L) tq y y := fun q b hq _ hy => ⟨getL_base hq, hy⟩
theorem KeepU.of (k : KeepL H N N' y y') : KeepU H N N' tq y y' := fun q b hq _ hy => by
  obtain ⟨h1, h2⟩ := k q b hq fun u g e => hy ⟨u, g, e⟩
  exact ⟨h1, fun ⟨u, g, e⟩ => h2 u g e⟩
theorem KeepU.put (h : ∀ j b3, j ≠ tq → getL N j = some b3 → getL N' j = some b3) : KeepU H N N' tq y y := fun q b hq hne hy => ⟨h q b hne hq, hy⟩
end
/-! ### a table, its cells -/
structure Tb (e : TypeId) (H N : Heap) (tq : Nat) (most held : Int) (y : C) (cs : List (Bool × C)) : Prop where
  tab : getL N tq = some (tabB true most held y)
  own : OwnR H N y 2 e cs.length (cellsP cs)
section
variable {e : TypeId} {H N N' L : Heap} {tq : Nat} {m h m' h' : Int} {y y' : C} {cs cs' : List (Bool × C)}
theorem Tb.app (t : Tb e H N tq m h y cs) : Tb e H (appL N L) tq m h y cs := ⟨getL_base t.tab, t.own.app⟩
/-- The table, behind a step on its row. -/
theorem Tb.row (t : Tb e H N tq m h y cs) (k : KeepL H N N' y y') (ho : OwnR H N' y 2 e cs'.length (cellsP cs')) : Tb e H N' tq m h y cs' := ⟨(k tq _ t.tab (own_var t.own t.tab)).1, ho⟩
theorem Tb.put (t : Tb e H N tq m h y cs) (hs : setL N (tabB true m' h' y) tq = some N') (hg : getL N' tq = some (tabB true m' h' y)) : Tb e H N' tq m' h' y cs := ⟨hg, t.own.setv t.tab hs⟩
end
/-- The first number that is free. -/
structure Free (cs : List (Bool × C)) (k : Nat) : Prop where
  le : k ≤ cs.length
  low : ∀ j, j < k → ∃ x, cs[j]? = some (true, x)
  at_ : k = cs.length ∨ ∃ x, cs[k]? = some (false, x)
def openL (cs : List (Bool × C)) (k : Nat) (a : C) : List (Bool × C) := if k < cs.length then cs.set k (true, a) else cs ++ [(true, a)]
theorem c1_free {x : C} (h : x.ref = none) (e : Int) : (V.t [.c x, .c (.i .i64 e)]).isFree := by
  intro c hc
  simp at hc
  rcases hc with rfl | rfl
  · exact h
  · rfl
/-- A cell's value. -/
structure Val (x : C) : Prop where
  ref : x.ref = none
  cells : (V.c x).cells = some (1, [x])
theorem VI.val {x : C} (h : VI x) : Val x := by obtain ⟨n, rfl⟩ := h; exact ⟨rfl, rfl⟩
theorem VS.val {x : C} (h : VS x) : Val x := by obtain ⟨n, rfl⟩ := h; exact ⟨rfl, rfl⟩
/-- A cell that is open, built. -/
theorem o_bldC {T : Tys} {call : CallF} {op : Op} {tm : List V} {H : Heap} {t tb tv : TypeId} {p0 p1 : Operand} {a z0 z1 : C} {bb : Nat} {ks : List PK} {fb fv : TI} (ho : op = .build t #[(0, p0), (1, p1)]) (h0 : opnd tm p0 = some (.c (.b true))) (h1 : opnd tm p1 = some (.c a)) (ht : tyAt T t = some ⟨.st [(0, tb), (1, tv)], 2, bb, [z0, z1], ks⟩) (hb : tyAt T tb = some fb) (hb1 : fb.size = 1) (hv : tyAt T tv = some fv) (hv1 : fv.size = 1) (ha : Val a) :
    evOp T call op tm H = some (.ag 2 [.b true, a], H) := by
  subst ho
  have hp : parts tm [(0, p0), (1, p1)] = some [(0, .c (.b true)), (1, .c a)] := by
    show (match opnd tm p0, (match opnd tm p1, some [] with
      | some v, some vs => some ((1, v) :: vs)
      | _, _ => none) with
      | some v, some vs => some ((0, v) :: vs)
      | _, _ => none) = _
    rw [h0, h1]
  have hbuild : vbuild T t [(0, .c (.b true)), (1, .c a)] = some (.ag 2 [.b true, a]) := by
    simp only [vbuild, ht]
    have e0 : getL [((0 : Nat), tb), (1, tv)] 0 = some (0, tb) := rfl
    have e1 : getL [((0 : Nat), tb), (1, tv)] 1 = some (1, tv) := rfl
    have s0 : splice 2 [z0, z1] 0 1 [.b true] = some [.b true, z1] := rfl
    have s1 : splice 2 [.b true, z1] 1 1 [a] = some [.b true, a] := rfl
    have c0 : (V.c (.b true)).cells = some (1, [.b true]) := rfl
    simp only [fillC, e0, e1, hb, hv, hb1, hv1, c0, ha.cells, Nat.beq_refl, cond_true, s0, s1]
  simp only [evOp, hp, hbuild, Option.map_some]
end Go.Proofs.Ytgbdjeofbeibiaa.Pe
