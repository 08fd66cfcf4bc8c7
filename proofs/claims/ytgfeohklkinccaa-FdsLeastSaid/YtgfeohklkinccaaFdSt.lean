/- FdsLeast: the state that is led. -/
import Derived.Test.YtgfeohklkinccaaFdNew
set_option linter.unusedVariables false
namespace Go.Proofs.Ytgfeohklkinccaa.Pe
set_option maxRecDepth 10000
set_option maxHeartbeats 4000000
/-! ### lists in memory -/
def actsC (l : List Act) : List C := l.flatMap actC
def bolsC (l : List Bool) : List C := l.map C.b
theorem actsC_len (l : List Act) : (actsC l).length = l.length * 4 := by
  induction l with
  | nil => rfl
  | cons a l ih => simp only [actsC, List.flatMap_cons, List.length_append, List.length_cons] at ih ⊢; rw [ih]; simp [actC]; omega
theorem actsC_app (l m : List Act) : actsC (l ++ m) = actsC l ++ actsC m := by simp [actsC]
theorem bolsC_app (l m : List Bool) : bolsC (l ++ m) = bolsC l ++ bolsC m := by simp [bolsC]
theorem bolsC_len (l : List Bool) : (bolsC l).length = l.length := by simp [bolsC]
theorem actsC_split {l : List Act} {i : Nat} {p : Act} (h : l[i]? = some p) (q : Act) : actsC l = actsC (l.take i) ++ actC p ++ actsC (l.drop (i + 1)) ∧ actsC (l.set i q) = actsC (l.take i) ++ actC q ++ actsC (l.drop (i + 1)) ∧ (actsC (l.take i)).length = i * 4 ∧ l.length * 4 = i * 4 + 4 + (actsC (l.drop (i + 1))).length := by
  have hlt := (List.getElem?_eq_some_iff.1 h).1
  have e : l[i] = p := (List.getElem?_eq_some_iff.1 h).2
  refine ⟨?_, ?_, ?_, ?_⟩
  · conv => lhs; rw [← List.take_append_drop i l, List.drop_eq_getElem_cons hlt, e]
    simp [actsC]
  · rw [List.set_eq_take_append_cons_drop, if_pos hlt]
    simp [actsC]
  · rw [actsC_len, List.length_take, Nat.min_eq_left (by omega)]
  · rw [actsC_len, List.length_drop]; omega
theorem acts_set {l : List Act} {i : Nat} (h : i < l.length) (q : Act) : splice (l.length * 4) (actsC l) (i * 4) 4 (actC q) = some (actsC (l.set i q)) := by
  obtain ⟨e1, e2, e3, e4⟩ := actsC_split (List.getElem?_eq_getElem h) q
  rw [e1, e2]
  exact splice_mid e3 rfl rfl e4
theorem acts_at {l : List Act} {i : Nat} {p : Act} (h : l[i]? = some p) : ((actsC l).drop (i * 4)).take 4 = actC p := by
  obtain ⟨e1, e2, e3, e4⟩ := actsC_split h p
  rw [e1, List.append_assoc, List.drop_append_of_le_length (by omega), List.drop_eq_nil_of_le (by omega), List.nil_append, List.take_append_of_le_length (by simp [actC])]
  rfl
theorem bols_set {l : List Bool} {i : Nat} (h : i < l.length) (q : Bool) : splice (l.length * 1) (bolsC l) (i * 1) 1 [.b q] = some (bolsC (l.set i q)) := by
  have e : bolsC l = bolsC (l.take i) ++ [.b l[i]] ++ bolsC (l.drop (i + 1)) := by
    conv => lhs; rw [← List.take_append_drop i l, List.drop_eq_getElem_cons h]
    simp only [bolsC, List.map_append, List.map_cons, List.append_assoc, List.singleton_append]
  have e2 : bolsC (l.set i q) = bolsC (l.take i) ++ [.b q] ++ bolsC (l.drop (i + 1)) := by
    rw [List.set_eq_take_append_cons_drop, if_pos h]
    simp [bolsC]
  rw [e, e2]
  refine splice_mid ?_ rfl rfl ?_
  · rw [bolsC_len, List.length_take]; omega
  · rw [bolsC_len, List.length_drop]; omega
theorem bols_at {l : List Bool} {i : Nat} {p : Bool} (h : l[i]? = some p) : ((bolsC l).drop (i * 1)).take 1 = [.b p] := by
  have hlt := (List.getElem?_eq_some_iff.1 h).1
  have e : l[i] = p := (List.getElem?_eq_some_iff.1 h).2
  rw [Nat.mul_one, List.drop_eq_getElem_cons (by rw [bolsC_len]; exact hlt)]
  simp [bolsC, e]
theorem own_rd {H N : Heap} {x : C} {sz n i z : Nat} {e : TypeId} {cs ys : List C} (h : OwnR H N x sz e n cs) (hi : i < n) (hz : z = sz) (hc : (cs.drop (i * sz)).take z = ys) : rdAt (appL H N) (satC sz i x) z = some ys := by
  subst hz
  rcases h with ⟨rfl, h1, _⟩ | ⟨j, lo, rfl, h2, h3, h4⟩
  · omega
  · simp only [satC, Nat.zero_add]
    refine rd_qs (getL_own h2) h4 h3 (Nat.le_refl _) ?_ hc
    have : (i + 1) * z ≤ n * z := Nat.mul_le_mul_right _ hi
    rw [Nat.add_mul, Nat.one_mul] at this
    exact this
theorem rd_bool {H N : Heap} {x : C} {e : TypeId} {l : List Bool} {i : Nat} {b : Bool} (h : OwnR H N x 1 e l.length (bolsC l)) (hb : l[i]? = some b) : rdAt (appL H N) (satC 1 i x) 1 = some [.b b] := own_rd h (List.getElem?_eq_some_iff.1 hb).1 rfl (bols_at hb)
theorem rd_act {H N : Heap} {x : C} {e : TypeId} {l : List Act} {i : Nat} {a : Act} (h : OwnR H N x 4 e l.length (actsC l)) (hb : l[i]? = some a) : rdAt (appL H N) (satC 4 i x) 4 = some (actC a) := own_rd h (List.getElem?_eq_some_iff.1 hb).1 rfl (acts_at hb)
/-! ### the state -/
theorem OwnR.oth {H N N' : Heap} {x x' z : C} {sz sz2 n n2 : Nat} {e e2 : TypeId} {cs cs2 : List C} (h : OwnR H N x sz e n cs) (k : KeepL H N N' x x') (hz : OwnR H N z sz2 e2 n2 cs2) (hne : sz ≠ sz2) : OwnR H N' z sz2 e2 n2 cs2 := by
  refine hz.keep fun q b u g e1 e2 => (k q b e2 fun u' g' e3 => ?_).1
  obtain ⟨lo, g1⟩ := h.has e3
  obtain ⟨lo', g2⟩ := hz.has e1
  rw [g1] at g2
  cases g2
  exact hne rfl
theorem Tb.oth {H N N' : Heap} {x x' : C} {sz n tq : Nat} {e : TypeId} {cs : List C} {m h : Int} {y : C} {l : List (Bool × Act)} (hx : OwnR H N x sz e n cs) (k : KeepL H N N' x x') (t : Tb H N tq m h y l) (hne : sz ≠ 5) : Tb H N' tq m h y l :=
  ⟨(k tq _ t.tab (own_var hx t.tab)).1, hx.oth k t.own hne⟩
theorem OwnR.kt {H N N' : Heap} {z : C} {sz2 n2 tq : Nat} {e2 : TypeId} {cs2 : List C} {m h : Int} {y : C} {l : List (Bool × Act)} (t : Tb H N tq m h y l) (k : KeepT N N' tq) (hz : OwnR H N z sz2 e2 n2 cs2) (hne : sz2 ≠ 5) : OwnR H N' z sz2 e2 n2 cs2 := by
  refine hz.keep fun q b u g e1 e2 => k q b e2 ?_ ?_
  · intro e; subst e
    obtain ⟨lo, g⟩ := hz.has e1
    rw [t.tab] at g; cases g
  · intro c n lo e
    obtain ⟨lo', g⟩ := hz.has e1
    rw [e2, e] at g
    cases g
    exact hne rfl
structure Ls (H N : Heap) (m h : Int) (y hs vs : C) (cs : List (Bool × Act)) (bs : List Bool) (ws : List Act) : Prop where
  tb : Tb H N 0 m h y cs
  has : OwnR H N hs 1 4 bs.length (bolsC bs)
  vals : OwnR H N vs 4 33 ws.length (actsC ws)
section
variable {H N N' L : Heap} {m h h' : Int} {y y' hs hs' vs vs' : C} {cs cs' : List (Bool × Act)} {bs bs' : List Bool} {ws ws' : List Act}
theorem Ls.app (s : Ls H N m h y hs vs cs bs ws) : Ls H (appL N L) m h y hs vs cs bs ws := ⟨s.tb.app, s.has.app, s.vals.app⟩
theorem Ls.step (s : Ls H N m h y hs vs cs bs ws) (t : Tb H N' 0 m h' y' cs') (k : KeepT N N' 0) : Ls H N' m h' y' hs vs cs' bs ws := ⟨t, s.has.kt s.tb k (by omega), s.vals.kt s.tb k (by omega)⟩
theorem Ls.setH (s : Ls H N m h y hs vs cs bs ws) (o : OwnR H N' hs' 1 4 bs'.length (bolsC bs')) (k : KeepL H N N' hs hs') : Ls H N' m h y hs' vs cs bs' ws := ⟨s.tb.oth s.has k (by omega), o, s.has.oth k s.vals (by omega)⟩
theorem Ls.setV (s : Ls H N m h y hs vs cs bs ws) (o : OwnR H N' vs' 4 33 ws'.length (actsC ws')) (k : KeepL H N N' vs vs') : Ls H N' m h y hs vs' cs bs ws' := ⟨s.tb.oth s.vals k (by omega), s.vals.oth k s.has (by omega), o⟩
end
/-! ### what the lists say of each other -/
def cnt (cs : List (Bool × Act)) : Int := (cs.countP (·.1) : Nat)
theorem cnt_app (cs : List (Bool × Act)) (a : Act) : cnt (cs ++ [(true, a)]) = cnt cs + 1 := by simp [cnt]
theorem cnt_set {cs : List (Bool × Act)} {i : Nat} {p : Bool × Act} (h : cs[i]? = some p) (q : Bool × Act) : cnt (cs.set i q) = cnt cs - (if p.1 then 1 else 0) + (if q.1 then 1 else 0) := by
  have hlt := (List.getElem?_eq_some_iff.1 h).1
  have e : cs[i] = p := (List.getElem?_eq_some_iff.1 h).2
  have hpos : p.1 = true → 0 < cs.countP (·.1) := fun hp => List.countP_pos_iff.2 ⟨p, e ▸ List.getElem_mem hlt, hp⟩
  unfold cnt
  rw [List.countP_set hlt, e]
  generalize cs.countP (·.1) = c at hpos ⊢
  obtain ⟨p1, p2⟩ := p
  obtain ⟨q1, q2⟩ := q
  cases p1 <;> cases q1 <;> simp at hpos ⊢ <;> omega
theorem cnt_le (cs : List (Bool × Act)) : 0 ≤ cnt cs ∧ cnt cs ≤ cs.length := ⟨by unfold cnt; omega, by unfold cnt; have := List.countP_le_length (l := cs) (p := (·.1)); omega⟩
structure Ag (cs : List (Bool × Act)) (bs : List Bool) (ws : List Act) : Prop where
  eq : bs.length = ws.length
  held : ∀ i : Nat, bs[i]? = some true → ∃ x, cs[i]? = some (true, x) ∧ ws[i]? = some x
  free : ∀ i : Nat, bs[i]? = some false → cs.length ≤ i ∨ ∃ x, cs[i]? = some (false, x)
section
variable {cs : List (Bool × Act)} {bs : List Bool} {ws : List Act} {i k : Nat} {a x : Act}
theorem Ag.at_ (g : Ag cs bs ws) (hi : i < bs.length) : (bs[i]? = some true ∧ ∃ x, cs[i]? = some (true, x) ∧ ws[i]? = some x) ∨ (bs[i]? = some false ∧ (cs.length ≤ i ∨ ∃ x, cs[i]? = some (false, x))) := by
  have e : bs[i]? = some bs[i] := List.getElem?_eq_getElem hi
  cases h : bs[i] with
  | true => rw [h] at e; exact .inl ⟨e, g.held i e⟩
  | false => rw [h] at e; exact .inr ⟨e, g.free i e⟩
/-- A number is free: the first. -/
theorem Ag.first (g : Ag cs bs ws) (hlow : ∀ j, j < k → bs[j]? = some true) (hk : bs[k]? = some false) : Free cs k := by
  refine ⟨?_, fun j hj => ?_, ?_⟩
  · rcases Nat.lt_or_ge cs.length k with h | h
    · obtain ⟨x, e, _⟩ := g.held _ (hlow cs.length h)
      simp at e
    · exact h
  · obtain ⟨x, e, _⟩ := g.held j (hlow j hj)
    exact ⟨x, e⟩
  · rcases g.free k hk with h | h
    · rcases Nat.lt_or_ge cs.length k with h2 | h2
      · obtain ⟨x, e, _⟩ := g.held _ (hlow cs.length h2)
        simp at e
      · exact .inl (by omega)
    · exact .inr h
theorem cnt_open (hk : Free cs k) : cnt (openL cs k a) = cnt cs + 1 := by
  unfold openL
  split
  · rename_i h
    obtain ⟨x, e⟩ : ∃ x, cs[k]? = some (false, x) := hk.at_.resolve_left (by omega)
    rw [cnt_set e]; simp
  · exact cnt_app cs a
theorem openL_at (hk : Free cs k) (j : Nat) : (openL cs k a)[j]? = if j = k then some (true, a) else cs[j]? := by
  have hle := hk.le
  unfold openL
  split
  · rename_i h
    rw [List.getElem?_set]
    by_cases e : j = k
    · subst e; simp [h]
    · rw [if_neg (fun e' => e e'.symm), if_neg e]
  · rename_i h
    have : k = cs.length := by omega
    subst this
    by_cases e : j = cs.length
    · subst e; simp
    · rw [if_neg e]
      rcases Nat.lt_or_ge j cs.length with h1 | h1
      · rw [List.getElem?_append_left h1]
      · rw [List.getElem?_eq_none (by simp; omega), List.getElem?_eq_none (by omega)]
theorem openL_len (hk : Free cs k) : cs.length ≤ (openL cs k a).length ∧ (openL cs k a).length ≤ cs.length + 1 := by
  unfold openL
  split <;> simp
theorem Ag.open_ (g : Ag cs bs ws) (hk : Free cs k) (hlt : k < bs.length) : Ag (openL cs k a) (bs.set k true) (ws.set k a) := by
  refine ⟨by simp [g.eq], fun i hi => ?_, fun i hi => ?_⟩
  · rw [List.getElem?_set] at hi
    rw [openL_at hk, List.getElem?_set]
    by_cases e : k = i
    · subst e
      have : k < ws.length := by rw [← g.eq]; exact hlt
      exact ⟨a, by simp, by simp [this]⟩
    · rw [if_neg e] at hi
      rw [if_neg (fun e' => e e'.symm), if_neg e]
      exact g.held i hi
  · rw [List.getElem?_set] at hi
    by_cases e : k = i
    · subst e; simp [hlt] at hi
    · rw [if_neg e] at hi
      have := openL_len (a := a) hk
      rw [openL_at hk, if_neg (fun e' => e e'.symm)]
      rcases g.free i hi with h | h
      · by_cases e2 : cs.length = i ∧ (openL cs k a).length = cs.length + 1
        · exfalso
          have h3 := hk.le
          have h4 : ¬ k < cs.length := fun h5 => by
            have := e2.2
            unfold openL at this
            rw [if_pos h5] at this
            simp at this
          omega
        · exact .inl (by omega)
      · exact .inr h
theorem Ag.close (g : Ag cs bs ws) (hk : k < bs.length) : Ag (cs.set k (false, x)) (bs.set k false) ws := by
  refine ⟨by simp [g.eq], fun i hi => ?_, fun i hi => ?_⟩
  · rw [List.getElem?_set] at hi
    by_cases e : k = i
    · subst e; simp [hk] at hi
    · rw [if_neg e] at hi
      rw [List.getElem?_set, if_neg e]
      exact g.held i hi
  · rw [List.getElem?_set, List.length_set]
    by_cases e : k = i
    · subst e
      rcases Nat.lt_or_ge k cs.length with h | h
      · exact .inr ⟨x, by simp [h]⟩
      · exact .inl h
    · rw [List.getElem?_set, if_neg e] at hi
      rw [if_neg e]
      exact g.free i hi
theorem Ag.put (g : Ag cs bs ws) (hk : cs[k]? = some (true, x)) (hb : k < bs.length) : Ag (cs.set k (true, a)) bs (ws.set k a) := by
  have hkc := (List.getElem?_eq_some_iff.1 hk).1
  have hka : k < ws.length := by rw [← g.eq]; exact hb
  refine ⟨by simp [g.eq], fun i hi => ?_, fun i hi => ?_⟩
  · rw [List.getElem?_set, List.getElem?_set]
    by_cases e : k = i
    · subst e
      exact ⟨a, by simp [hkc], by simp [hka]⟩
    · rw [if_neg e, if_neg e]
      exact g.held i hi
  · rw [List.length_set, List.getElem?_set]
    by_cases e : k = i
    · subst e
      exfalso
      rcases g.free k hi with h | ⟨z, h⟩
      · omega
      · rw [hk] at h; cases h
    · rw [if_neg e]
      exact g.free i hi
theorem Ag.nil (n : Nat) : Ag [] (List.replicate n false) (List.replicate n zAct) := ⟨by simp, fun i hi => by rw [List.getElem?_replicate] at hi; split at hi <;> simp at hi, fun i hi => .inl (Nat.zero_le _)⟩
end
end Go.Proofs.Ytgfeohklkinccaa.Pe
