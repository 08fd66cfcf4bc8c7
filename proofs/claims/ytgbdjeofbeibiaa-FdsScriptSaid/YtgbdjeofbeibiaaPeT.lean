/- A plain reading of the model's code: a list within a struct, handed back with a number. -/
import Derived.Test.YtgbdjeofbeibiaaPeP
set_option linter.unusedVariables false
namespace Go.Proofs.Ytgbdjeofbeibiaa.Pe
section
variable {H N N' : Heap} {x : C} {sz n : Nat} {e : TypeId} {cs : List C}
theorem OwnR.setv {q m m2 : Nat} {wr wr2 : Bool} {cs1 cs2 : List C} (h : OwnR H N x sz e n cs) (hg : getL N q = some (.var wr m cs1)) (hs : setL N (.var wr2 m2 cs2) q = some N') : OwnR H N' x sz e n cs := by
  obtain ⟨rfl, hl⟩ := setL_some _ _ _ _ hs
  refine h.keep fun j b u g e1 e2 => ?_
  obtain ⟨lo, e3⟩ := h.has e1
  have hne : q ≠ j := fun e => by subst e; rw [hg] at e3; cases e3
  rw [getL_eq] at e2 ⊢
  rw [List.getElem?_set, if_neg hne]
  exact e2
theorem set_ok {q : Nat} {b b2 : Bk} (h : getL N q = some b) : ∃ N', setL N b2 q = some N' ∧ getL N' q = some b2 ∧ ∀ j b3, j ≠ q → getL N j = some b3 → getL N' j = some b3 := by
  have hlt : q < N.length := by rw [getL_eq] at h; exact (List.getElem?_eq_some_iff.1 h).1
  refine ⟨N.set q b2, setL_of _ _ _ hlt, ?_, fun j b3 hj h3 => ?_⟩
  · rw [getL_eq]; simp [hlt]
  · rw [getL_eq] at h3 ⊢
    rw [List.getElem?_set, if_neg (Ne.symm hj)]; exact h3
theorem OwnR.cells (h : OwnR H N x sz e n cs) : (V.c x).cells = some (1, [x]) := by
  rcases h with ⟨rfl, _⟩ | ⟨j, lo, rfl, _⟩ <;> rfl
/-- A call that hands back a struct of one list, and a number. -/
theorem vrowT {call : CallF} {f : FuncId} {args : List V} {e0 : Int} (h : pF call f args (freeze H) fun u H' => ∃ N x, u = .t [.ag 1 [x], .c (.i .i64 e0)] ∧ H' = appL (freeze H) N ∧ OwnR (freeze H) N x sz e n cs ∧ (n = 0 → x = .ns)) (hf : ∀ c ∈ cs, c.ref = none) :
    ∃ x M, Vc call f args H (.t [.ag 1 [x], .c (.i .i64 e0)], appL H M) ∧ ((x = .ns ∧ M = [] ∧ n = 0 ∧ cs = []) ∨ n ≠ 0 ∧ ∃ lo, x = .sl H.length 0 n n ∧ M = [.row true cs n lo sz e] ∧ lo ≤ n ∧ cs.length = n * sz) := by
  obtain ⟨u, H', e1, N, x, rfl, rfl, hO, h0⟩ := h
  rcases hO with ⟨rfl, rfl, rfl⟩ | ⟨j, lo, rfl, g1, g2, g3⟩
  · refine ⟨.ns, [], ⟨?_⟩, .inl ⟨rfl, rfl, rfl, rfl⟩⟩
    unfold vcall
    rw [e1]
    have hfil : (V.t [.ag 1 [C.ns], .c (.i .i64 e0)]).refsQ.filter (fun id => Nat.ble H.length id) = [] := by rw [V.refsQ_eq]; rfl
    show some (gc H _ _) = _
    unfold gc
    simp only [hfil, appL_eq, List.append_nil]
  · refine ⟨_, _, ⟨?_⟩, .inr ⟨fun e => by simp at h0; omega, lo, rfl, rfl, g2, g3⟩⟩
    unfold vcall
    rw [e1]
    have hl : (freeze H).length = H.length := freeze_len
    have hfil : (V.t [.ag 1 [C.sl ((freeze H).length + j) 0 n n], .c (.i .i64 e0)]).refsQ.filter (fun id => Nat.ble H.length id) = [H.length + j] := by
      rw [V.refsQ_eq]
      have : Nat.ble H.length (H.length + j) = true := by rw [ble_eq]; simp
      simp [V.refs, V1.refs, C.ref, hl, List.filter_cons, this]
    have hd : dropL (appL (freeze H) N) H.length = N := by
      rw [← hl]; exact dropL_app0 _ _
    have hj : H.length + j - H.length = j := by omega
    have hnr : (Bk.row true cs n lo sz e).cellsNoRef = true := by
      simp only [Bk.cellsNoRef, List.all_eq_true]
      intro c hc; rw [hf c hc]; rfl
    have hren : (V.t [.ag 1 [C.sl ((freeze H).length + j) 0 n n], .c (.i .i64 e0)]).ren (fun j => bif Nat.ble (j + 1) H.length then j else H.length) = V.t [.ag 1 [C.sl H.length 0 n n], .c (.i .i64 e0)] := by
      have : Nat.ble (H.length + j + 1) H.length = false := by rw [ble_eq]; simp; omega
      simp [V.ren, V1.ren, C.ren, hl, this]
    show some (gc H _ (dropL (appL (freeze H) N) H.length)) = _
    rw [hd]
    unfold gc
    simp only [hfil, hj, g1, hnr, cond_true, hren]
end
/-- One element, as a list of one, in a region that draws its order. -/
theorem o_bslD {T : Tys} {call : CallF} {op : Op} {tm : List V} {H N : Heap} {t e : TypeId} {px : Operand} {sz bb : Nat} {a1 a2 : Nat} {a3 : List C} {a4 : List PK} {kd : TK} {zz : List C} {ks : List PK} {v : V} {ys : List C} (ho : op = .buildSlice t 1 #[(0, px)]) (hx : opnd tm px = some v) (hc : v.cells = some (sz, ys)) (ht : tyAt T t = some ⟨.sl e, a1, a2, a3, a4⟩) (he : tyAt T e = some ⟨kd, sz, bb, zz, ks⟩) (hz : zz.length = sz) (h1 : 1 ≤ sz) (h2 : sz ≤ 16777216) (hy : ys.length = sz) :
    evOp T call op tm (appL (freeze (appL H N)) []) = some (.c (.sl (H.length + N.length) 0 1 1), appL (freeze (appL H N)) [.row true ys 1 1 sz e]) := by
  have := o_bsl (T := T) (call := call) (H := freeze (appL H N)) (N := []) ho hx hc ht he hz h1 h2 hy
  rw [freeze_len, len_app rfl] at this
  simp only [List.length_nil, Nat.add_zero] at this
  exact this
end Go.Proofs.Ytgbdjeofbeibiaa.Pe
