/- Regions that draw their order: what holds when some of the operations have been carried out. -/
import Derived.Test.YtbfepedjnlcgkaaPeDrawB
set_option linter.unusedVariables false
namespace Go.Proofs.Ytbfepedjnlcgkaa.Pe
open Go.RowKit
theorem Occ_congr {ρ ρ' : Ren} {id : Nat} {b : Bk} {g : Nat} (h : ∀ k, ρ' id k = ρ id k) : Occ ρ' id b g ↔ Occ ρ id b g := by
  cases b <;> simp only [Occ, h]
theorem BRel.move {ρ ρ' : Ren} {H1 H2 : Heap} {id : Nat} {b : Bk} {w : World} (hb : BRel ρ H1 id b w) (h : ∀ k, ρ' id k = ρ id k) (l : Later ρ H1 ρ' H2) : BRel ρ' H2 id b w := by
  cases b with
  | dead => trivial
  | var wr m cells =>
    obtain ⟨h0, g, ty, cs, h1, h2, h3⟩ := hb
    exact ⟨h0, g, ty, cs, (h 0).trans h1, h2, h3.later l⟩
  | row wr cells n lo sz e =>
    obtain ⟨h0, h1, h1', h2⟩ := hb
    refine ⟨h0, h1, h1', fun k a b => ?_⟩
    obtain ⟨xs, h3, h4⟩ := h2 k a b
    exact ⟨xs, h3.later l, by rw [h k]; exact h4⟩
  | ror cells n sz =>
    obtain ⟨h0, h1, A, c, h2, h3, h4⟩ := hb
    refine ⟨h0, h1, A, c, (h n).trans h2, h3, fun hn => ?_⟩
    obtain ⟨ad, xs, a, b, r⟩ := h4 hn
    exact ⟨ad, xs, a, b.later l, r⟩
  | mp wr ks =>
    obtain ⟨g, es, cl, h1, h2⟩ := hb
    exact ⟨g, es, cl, (h 0).trans h1, h2⟩
theorem viewN_get (cl : Nat) : ∀ (ws : List Nat) (us : List (Option Nat)) (bs : Heap) (x w : Nat) (u : Option Nat) (b : Bk), ws[x]? = some w → us[x]? = some u → bs[x]? = some b →
    (viewN cl ws us bs)[x]? = some (bif bit cl w then (bif (match u with
    | none => true
    | some j => bit cl j) then b else .dead b.gb) else .dead 0)
  | [], us, bs, x, w, u, b, h, _, _ => by simp at h
  | _ :: _, [], bs, x, w, u, b, _, h, _ => by simp at h
  | _ :: _, _ :: _, [], x, w, u, b, _, _, h => by simp at h
  | w' :: ws, u' :: us, b' :: bs, 0, w, u, b, h1, h2, h3 => by
    simp only [List.getElem?_cons_zero, Option.some.injEq] at h1 h2 h3
    subst h1; subst h2; subst h3
    rfl
  | w' :: ws, u' :: us, b' :: bs, x + 1, w, u, b, h1, h2, h3 => viewN_get cl ws us bs x w u b (by simpa using h1) (by simpa using h2) (by simpa using h3)
theorem viewN_len (cl : Nat) : ∀ (ws : List Nat) (us : List (Option Nat)) (bs : Heap), ws.length = bs.length → us.length = bs.length → (viewN cl ws us bs).length = bs.length
  | [], [], [], _, _ => rfl
  | w :: ws, u :: us, b :: bs, h1, h2 => by simp only [viewN, List.length_cons]; rw [viewN_len cl ws us bs (by simpa using h1) (by simpa using h2)]
  | [], _, b :: bs, h, _ => by simp at h
  | w :: ws, _, [], h, _ => by simp at h
  | [], u :: us, [], _, h => by simp at h
  | w :: ws, [], b :: bs, _, h => by simp at h
/-- All that stands fast of one region. -/
structure Ctx (P : Program) (T : Tys) (call : CallF) (ops : List Oper) (H : Heap) (tm0 : List V) (n : Nat) (R : Nat → Rg) : Prop where
  hT : TabOk P T
  hcall : CallOk P call
  ord : Ordered ops (clsOf ops [])
  n_le : n ≤ ops.length
  tab : Tab R n
  tm : (R 0).tm = tm0
  steps : ∀ i o, i < n → ops[i]? = some o → stepR T call ops H (clsOf ops []) i o (R i) = some (R (i + 1))
section
variable {P : Program} {T : Tys} {call : CallF} {ops : List Oper} {H : Heap} {tm0 : List V} {n : Nat} {R : Nat → Rg}
/-- What op k stands behind, and itself. -/
noncomputable def Ak (ops : List Oper) (k : Nat) : Nat → Bool := fun y => Nat.beq y k || bit (clAt (clsOf ops []) k) y
noncomputable def Ck (ops : List Oper) (k : Nat) : Nat → Bool := fun y => bit (clAt (clsOf ops []) k) y
/-- Memory as far as values are concerned: the blocks made by some of the operations. -/
def Hst (H : Heap) (r : Rg) (A : Nat → Bool) : Heap := H ++ (List.range r.N.length).map fun x => .dead (match r.own[x]?, r.N[x]? with
  | some y, some b => bif A y then b.gb else 0
  | _, _ => 0)
theorem Gb_Hst {r : Rg} {A : Nat → Bool} {id k : Nat} : Gb (Hst H r A) id k ↔ Gb H id k ∨ ∃ x y b, id = H.length + x ∧ r.own[x]? = some y ∧ r.N[x]? = some b ∧ A y = true ∧ k < b.gb := by
  unfold Hst
  constructor
  · rintro ⟨b, hb, hk⟩
    by_cases hid : id < H.length
    · rw [List.getElem?_append_left hid] at hb
      exact .inl ⟨b, hb, hk⟩
    · rw [List.getElem?_append_right (by omega), List.getElem?_map] at hb
      cases hr : (List.range r.N.length)[id - H.length]? with
      | none => simp [hr] at hb
      | some x =>
        have hx : x = id - H.length := by
          have := (List.getElem?_eq_some_iff.1 hr).2
          simpa using this.symm
        simp only [hr, Option.map_some, Option.some.injEq] at hb
        subst hb
        simp only [Bk.gb] at hk
        split at hk
        · rename_i y b h1 h2
          cases hA : A y with
          | false => simp [hA] at hk
          | true =>
            simp only [hA, cond_true] at hk
            exact .inr ⟨x, y, b, by omega, h1, h2, hA, hk⟩
        · omega
  · rintro (⟨b, hb, hk⟩ | ⟨x, y, b, rfl, h1, h2, hA, hk⟩)
    · exact ⟨b, by rw [List.getElem?_append_left (List.getElem?_eq_some_iff.1 hb).1]; exact hb, hk⟩
    · have hx : x < r.N.length := (List.getElem?_eq_some_iff.1 h2).1
      refine ⟨.dead b.gb, ?_, hk⟩
      rw [List.getElem?_append_right (by omega), Nat.add_sub_cancel_left, List.getElem?_map, List.getElem?_range hx]
      simp [h1, h2, hA]
/-- An entry's block when the operations of S have been carried out. -/
def blkS (R : Nat → Rg) (n : Nat) (S : Nat → Bool) (x : Nat) : Option Bk := match (R n).upd[x]? with
  | some (some u) => if S u = true then (R n).N[x]? else (R u).N[x]?
  | _ => (R n).N[x]?
/-- .. and what its cells may name. -/
noncomputable def wfS (ops : List Oper) (R : Nat → Rg) (n : Nat) (S : Nat → Bool) (x y : Nat) : Nat → Bool := match (R n).upd[x]? with
  | some (some u) => if S u = true then Ak ops u else Ak ops y
  | _ => Ak ops y
structure Inv (ops : List Oper) (H : Heap) (tm0 : List V) (n : Nat) (R : Nat → Rg) (ρ0 : Ren) (w0 : World) (a0 : Act) (S : Nat → Bool) (ρ : Ren) (a : Act) (w : World) : Prop where
  closed : ∀ i, S i = true → ∀ k, bit (clAt (clsOf ops []) i) k = true → S k = true
  heads : ∀ i, S i = true → i < n
  later : Later ρ0 H ρ H
  hb : ∀ (id : Nat) b, H[id]? = some b → BRel ρ H id b w
  hocc : ∀ (id : Nat) b g, H[id]? = some b → Occ ρ id b g → g < w0.heap.size
  below : Below w0.heap.size w0 w
  ent : ∀ (x y : Nat) b, (R n).own[x]? = some y → S y = true → blkS R n S x = some b → BRel ρ (Hst H (R n) (wfS ops R n S x y)) (H.length + x) b w ∧ ∀ g, Occ ρ (H.length + x) b g → w0.heap.size ≤ g
  dis : ∀ (x x' y y' : Nat) b b' g, x ≠ x' → (R n).own[x]? = some y → (R n).own[x']? = some y' → S y = true → S y' = true → blkS R n S x = some b → blkS R n S x' = some b' → b.wr = true → Occ ρ (H.length + x) b g → Occ ρ (H.length + x') b' g → False
  len : tm0.length = a.tmps.size
  t1 : ∀ k, S k = true → ∀ o d v, ops[k]? = some o → o.dst = some d → (R (k + 1)).tm[d]? = some v → VRel ρ (Hst H (R n) (Ak ops k)) v (a.tmps.getD d undef)
  t2 : ∀ (t : Nat) v, tm0[t]? = some v → (∀ k o, S k = true → ops[k]? = some o → o.dst ≠ some t) → VRel ρ H v (a.tmps.getD t undef)
  def_ : a.defers = a0.defers
variable {ρ0 ρ : Ren} {w0 w : World} {a0 a : Act} {S : Nat → Bool}
theorem Ctx.rstep (c : Ctx P T call ops H tm0 n R) {i : Nat} (hi : i < n) : ∃ o, ops[i]? = some o ∧ stepR T call ops H (clsOf ops []) i o (R i) = some (R (i + 1)) := by
  have : i < ops.length := Nat.lt_of_lt_of_le hi c.n_le
  exact ⟨ops[i], by simp [this], c.steps i _ hi (by simp [this])⟩
/-- A temporary ahead of a step: what the last that wrote it left there, or what was there. -/
theorem Ctx.temp (c : Ctx P T call ops H tm0 n R) (t : Nat) : ∀ i, i ≤ n → (∃ k o, k < i ∧ ops[k]? = some o ∧ o.dst = some t ∧ (R i).tm[t]? = (R (k + 1)).tm[t]?) ∨ ((∀ k o, k < i → ops[k]? = some o → o.dst ≠ some t) ∧ (R i).tm[t]? = tm0[t]?)
  | 0, _ => .inr ⟨fun k o h => by omega, by rw [c.tm]⟩
  | i + 1, hi => by
    obtain ⟨o, ho, hs⟩ := c.rstep (i := i) (by omega)
    by_cases hd : o.dst = some t
    · exact .inl ⟨i, o, by omega, ho, hd, rfl⟩
    · have hput : ∃ v, putT (R i).tm o.dst v = some (R (i + 1)).tm := by
        by_cases hst : ∃ t pa px, o.op = .store t pa px
        · obtain ⟨t, pa, px, hst⟩ := hst
          obtain ⟨x, off, m, n, cs, ys, cs', v, k, L⟩ := stepR_store hst hs
          exact ⟨_, L.tm'⟩
        · obtain ⟨v, H', _, h1, _⟩ := stepR_other (fun t pa px e => hst ⟨t, pa, px, e⟩) hs
          exact ⟨v, h1⟩
      obtain ⟨v, hput⟩ := hput
      have hsame : (R (i + 1)).tm[t]? = (R i).tm[t]? := by
        cases hdst : o.dst with
        | none =>
          rw [hdst] at hput
          have e : (R i).tm = (R (i + 1)).tm := Option.some.inj hput
          rw [e]
        | some d =>
          rw [hdst] at hput hd
          obtain ⟨h1, _⟩ := setL_some _ _ _ _ hput
          rw [h1, List.getElem?_set_ne (fun e => hd (by rw [e]))]
      rcases c.temp t i (by omega) with ⟨k, o', h1, h2, h3, h4⟩ | ⟨h1, h2⟩
      · exact .inl ⟨k, o', by omega, h2, h3, hsame.trans h4⟩
      · refine .inr ⟨fun k o' hk hk2 => ?_, hsame.trans h2⟩
        by_cases e : k = i
        · subst e
          rw [ho] at hk2
          cases hk2
          exact hd
        · exact h1 k o' (by omega) hk2
theorem putT_len {tm tm' : List V} {d : Option Tmp} {v : V} (h : putT tm d v = some tm') : tm'.length = tm.length := by
  cases d with
  | none => cases h; rfl
  | some d => rw [(setL_some _ _ _ _ h).1]; simp
/-- An entry that an operation sees, as it sees it. -/
theorem Ctx.sees (c : Ctx P T call ops H tm0 n R) (I : Inv ops H tm0 n R ρ0 w0 a0 S ρ a w) {i : Nat} (hi : i < n) (hS : ∀ k, bit (clAt (clsOf ops []) i) k = true → S k = true) (hn : S i = false) {x y : Nat} {u : Option Nat} {b : Bk}
    (h1 : (R i).own[x]? = some y) (h2 : (R i).upd[x]? = some u) (h3 : (R i).N[x]? = some b) (hy : bit (clAt (clsOf ops []) i) y = true) (hu : ∀ j, u = some j → bit (clAt (clsOf ops []) i) j = true) :
    (R n).own[x]? = some y ∧ S y = true ∧ blkS R n S x = some b ∧ ∀ y', wfS ops R n S x y y' = true → bit (clAt (clsOf ops []) i) y' = true := by
  have hx : x < (R i).N.length := (List.getElem?_eq_some_iff.1 h3).1
  have f := c.tab.far' (Nat.le_of_lt hi) (Nat.le_refl n)
  have hi' : i < ops.length := Nat.lt_of_lt_of_le hi c.n_le
  have hown : (R n).own[x]? = some y := (f.own x hx).trans h1
  have hAk : ∀ k y', bit (clAt (clsOf ops []) i) k = true → Ak ops k y' = true → bit (clAt (clsOf ops []) i) y' = true := fun k y' hk h => by
    simp only [Ak, Bool.or_eq_true] at h
    rcases h with h | h
    · rw [beq_nat h]; exact hk
    · exact c.ord.tr i hi' k y' hk h
  refine ⟨hown, hS y hy, ?_⟩
  rcases f.upd x hx with ⟨u1, u2⟩ | ⟨u1, j, j1, j2, j3, j4, j5, j6, j7⟩
  · unfold blkS wfS
    rw [u1, h2]
    cases u with
    | none => exact ⟨u2.trans h3, fun y' h => hAk y y' hy h⟩
    | some j =>
      have hj := hu j rfl
      simp only [hS j hj, if_true]
      exact ⟨u2.trans h3, fun y' h => hAk j y' hj h⟩
  · -- it is written later: not yet
    have hSj : S j = false := by
      cases hq : S j with
      | false => rfl
      | true =>
        exfalso
        by_cases e : j = i
        · rw [e, hn] at hq; cases hq
        · -- the writer stands behind all that see the entry
          obtain ⟨o, ho, hs⟩ := c.rstep (i := j) j2
          have hst : ∃ t pa px, o.op = .store t pa px := by
            rcases Classical.em (∃ t pa px, o.op = .store t pa px) with h | h
            · exact h
            · exfalso
              obtain ⟨v, H', _, _, _, g2, _⟩ := stepR_other (fun t pa px e => h ⟨t, pa, px, e⟩) hs
              have hlt : x < (R j).upd.length := (List.getElem?_eq_some_iff.1 j6).1
              rw [g2, List.getElem?_append_left hlt, j6] at j7
              cases j7
          obtain ⟨t, pa, px, hst⟩ := hst
          obtain ⟨x', off, m, n', cs, ys, cs', v, k, L⟩ := stepR_store hst hs
          have hxx : x = x' := by
            rcases Nat.decEq x x' with h | h
            · exfalso
              rw [L.upd', List.getElem?_set_ne (fun e => h e.symm), j6] at j7
              cases j7
            · exact h
          subst hxx
          have fj := c.tab.far' (Nat.le_of_lt j2) (Nat.le_refl n)
          have hk : k = y := by
            have := fj.own x (List.getElem?_eq_some_iff.1 L.blk).1
            rw [hown, L.own] at this
            cases this; rfl
          subst hk
          have := L.ahead i (by omega) hy
          have := I.closed j hq i this
          rw [hn] at this
          cases this
    unfold blkS wfS
    rw [j3]
    simp only [hSj, Bool.false_eq_true, if_false]
    exact ⟨j4.trans h3, fun y' h => hAk y y' hy h⟩
end
end Go.Proofs.Ytbfepedjnlcgkaa.Pe
