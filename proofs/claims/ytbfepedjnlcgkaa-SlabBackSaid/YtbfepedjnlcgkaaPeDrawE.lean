/- Regions that draw their order: what one more operation leaves. -/
import Derived.Test.YtbfepedjnlcgkaaPeDrawD
set_option linter.unusedVariables false
namespace Go.Proofs.Ytbfepedjnlcgkaa.Pe
open Go.RowKit
section
variable {P : Program} {T : Tys} {call : CallF} {ops : List Oper} {H : Heap} {tm0 : List V} {n : Nat} {R : Nat → Rg} {ρ0 ρ ρ' : Ren} {w0 w w' : World} {a0 a : Act} {S S' : Nat → Bool}
/-- An entry's life: made by its owner, and written once at most. -/
theorem Ctx.life (c : Ctx P T call ops H tm0 n R) {x y : Nat} (h : (R n).own[x]? = some y) : y < n ∧ (R y).N.length ≤ x ∧ x < (R (y + 1)).N.length ∧ (R (y + 1)).upd[x]? = some none ∧ (∀ t pa px o, ops[y]? = some o → o.op ≠ .store t pa px) ∧
    (((R n).upd[x]? = some none ∧ (R n).N[x]? = (R (y + 1)).N[x]?) ∨ ∃ u o t pa px off m k cs ys cs' v, y < u ∧ u < n ∧ ops[u]? = some o ∧ Loc T ops H (clsOf ops []) u o (R u) (R (u + 1)) x t pa px off m k cs ys cs' v y ∧ (R n).upd[x]? = some (some u) ∧ (R u).N[x]? = (R (y + 1)).N[x]? ∧ (R n).N[x]? = (R (u + 1)).N[x]?) := by
  have hyn : y < n := by
    have := (c.tab.owner (Nat.le_refl n) h).1 (by
      have := (List.getElem?_eq_some_iff.1 h).1
      rw [(c.lens (Nat.le_refl n)).1] at this
      exact this)
    exact this
  have h1 : x < (R (y + 1)).N.length := (c.tab.owner (i := y + 1) hyn h).2 (Nat.lt_succ_self y)
  have h2 : (R y).N.length ≤ x := by
    rcases Nat.lt_or_ge x (R y).N.length with h2 | h2
    · have := (c.tab.owner (Nat.le_of_lt hyn) h).1 h2
      omega
    · exact h2
  have h3 : (R (y + 1)).upd[x]? = some none := by
    rcases (c.tab.grown y hyn).how with ⟨B, g1, g2, g3⟩ | ⟨x0, b, b', g1, g2, g3, g4, g5, g6⟩
    · rw [g3, List.length_append] at h1
      rw [g2, List.getElem?_append_right (by rw [(c.lens (Nat.le_of_lt hyn)).2]; exact h2), List.getElem?_replicate, (c.lens (Nat.le_of_lt hyn)).2, if_pos (by omega)]
    · rw [g5, List.length_set] at h1
      omega
  have h4 : ∀ t pa px o, ops[y]? = some o → o.op ≠ .store t pa px := fun t pa px o ho hst => by
    obtain ⟨x', off, m, n', cs, ys, cs', v, k, L⟩ := stepR_store hst (c.steps y o hyn ho)
    rw [L.N', List.length_set] at h1
    omega
  refine ⟨hyn, h2, h1, h3, h4, ?_⟩
  have f := c.tab.far' (i := y + 1) (j := n) hyn (Nat.le_refl n)
  rcases f.upd x h1 with ⟨u1, u2⟩ | ⟨u1, j, j1, j2, j3, j4, j5, j6, j7⟩
  · exact .inl ⟨u1.trans h3, u2⟩
  · obtain ⟨o, ho, hs⟩ := c.rstep (i := j) j2
    have hst : ∃ t pa px, o.op = .store t pa px := by
      rcases Classical.em (∃ t pa px, o.op = .store t pa px) with h | h
      · exact h
      · exfalso
        obtain ⟨v, H', _, _, _, g2, _⟩ := stepR_other (fun t pa px e => h ⟨t, pa, px, e⟩) hs
        have hlt : x < (R j).upd.length := (List.getElem?_eq_some_iff.1 j6).1
        rw [g2, List.getElem?_append_left hlt, j6] at j7
        cases j7
    obtain ⟨t, pa, px, hst⟩ := hst
    obtain ⟨x', off, m, n', cs, ys, cs', v, k, L⟩ := stepR_store hst hs
    have hxx : x = x' := by
      rcases Nat.decEq x x' with h | h
      · exfalso
        rw [L.upd', List.getElem?_set_ne (fun e => h e.symm), j6] at j7
        cases j7
      · exact h
    subst hxx
    have fj := c.tab.far' (Nat.le_of_lt j2) (Nat.le_refl n)
    have hk : k = y := by
      have := fj.own x (List.getElem?_eq_some_iff.1 L.blk).1
      rw [h, L.own] at this
      cases this; rfl
    subst hk
    exact .inr ⟨j, o, t, pa, px, off, m, n', cs, ys, cs', v, by omega, j2, ho, L, j3, j4, j5.symm⟩
theorem Inv.ak (I : Inv ops H tm0 n R ρ0 w0 a0 S ρ a w) {k y : Nat} (hk : S k = true) (h : Ak ops k y = true) : S y = true := by
  simp only [Ak, Bool.or_eq_true] at h
  rcases h with h | h
  · rw [beq_nat h]; exact hk
  · exact I.closed k hk y h
theorem wfS_none {x y : Nat} (h : (R n).upd[x]? = some none) : wfS ops R n S x y = Ak ops y ∧ blkS R n S x = (R n).N[x]? := by
  constructor
  · simp only [wfS, h]
  · simp only [blkS, h]
theorem wfS_some {x y u : Nat} (h : (R n).upd[x]? = some (some u)) : wfS ops R n S x y = (if S u = true then Ak ops u else Ak ops y) ∧ blkS R n S x = (if S u = true then (R n).N[x]? else (R u).N[x]?) := by
  constructor
  · simp only [wfS, h]
  · simp only [blkS, h]
theorem Inv.wf (I : Inv ops H tm0 n R ρ0 w0 a0 S ρ a w) {x y y' : Nat} (hy : S y = true) (h : wfS ops R n S x y y' = true) : S y' = true := by
  rcases hu : (R n).upd[x]? with _ | _ | u
  · simp only [wfS, hu] at h
    exact I.ak hy h
  · rw [(wfS_none hu).1] at h
    exact I.ak hy h
  · rw [(wfS_some hu).1] at h
    split at h
    · rename_i hu
      exact I.ak hu h
    · exact I.ak hy h
/-- Names given to new blocks leave what was said of the others. -/
theorem later_S {A : Nat → Bool} (hA : ∀ y, A y = true → S y = true) {i : Nat} (hn : S i = false) (h0 : ∀ id, id < H.length → ρ' id = ρ id) (h1 : ∀ x y, (R n).own[x]? = some y → y ≠ i → ρ' (H.length + x) = ρ (H.length + x)) : Later ρ (Hst H (R n) A) ρ' (Hst H (R n) A) := by
  refine ⟨fun id k hg => ?_, fun _ _ h => h⟩
  rw [Gb_Hst] at hg
  rcases hg with ⟨b, hb, hk⟩ | ⟨x, y, b, rfl, e1, e2, e3, hk⟩
  · rw [h0 id (List.getElem?_eq_some_iff.1 hb).1]
  · rw [h1 x y e1 (fun e => by rw [e] at e3; have := hA i e3; rw [hn] at this; cases this)]
theorem put_getD_ne {d : Option Tmp} {t : Tmp} {v : Value} (h : d ≠ some t) : (a.put d v).tmps.getD t undef = a.tmps.getD t undef := by
  cases d with
  | none => rfl
  | some d =>
    have : d ≠ t := fun e => h (by rw [e])
    simp [Act.put, this]
theorem put_size (a : Act) (d : Option Tmp) (v : Value) : (a.put d v).tmps.size = a.tmps.size := by
  cases d with
  | none => rfl
  | some d => simp [Act.put]
/-- What holds when one more operation has been carried out, but for the entries. -/
theorem Ctx.next (c : Ctx P T call ops H tm0 n R) (I : Inv ops H tm0 n R ρ0 w0 a0 S ρ a w) {i : Nat} (hi : i < n) (hS : ∀ k, bit (clAt (clsOf ops []) i) k = true → S k = true) (hn : S i = false) (hS' : ∀ j, S' j = true ↔ j = i ∨ S j = true) {o : Oper} (ho : ops[i]? = some o) {v : V} {cv : Value}
    (hput : putT (R i).tm o.dst v = some (R (i + 1)).tm) (hv : VRel ρ' (Hst H (R n) (Ak ops i)) v cv) (h0 : ∀ id, id < H.length → ρ' id = ρ id) (h1 : ∀ x y, (R n).own[x]? = some y → y ≠ i → ρ' (H.length + x) = ρ (H.length + x))
    (hb : Below w0.heap.size w w') (hlen : (R i).tm.length = a.tmps.size)
    (ent : ∀ (x y : Nat) b, (R n).own[x]? = some y → S' y = true → blkS R n S' x = some b → BRel ρ' (Hst H (R n) (wfS ops R n S' x y)) (H.length + x) b w' ∧ ∀ g, Occ ρ' (H.length + x) b g → w0.heap.size ≤ g)
    (dis : ∀ (x x' y y' : Nat) b b' g, x ≠ x' → (R n).own[x]? = some y → (R n).own[x']? = some y' → S' y = true → S' y' = true → blkS R n S' x = some b → blkS R n S' x' = some b' → b.wr = true → Occ ρ' (H.length + x) b g → Occ ρ' (H.length + x') b' g → False) :
    Inv ops H tm0 n R ρ0 w0 a0 S' ρ' (a.put o.dst cv) w' := by
  have hlH : Later ρ H ρ' H := ⟨fun id k ⟨b, hb, hk⟩ => by rw [h0 id (List.getElem?_eq_some_iff.1 hb).1], fun _ _ h => h⟩
  have hsz : w0.heap.size ≤ w.heap.size := I.below.size
  refine ⟨fun j hj k hk => ?_, fun j hj => ?_, I.later.trans hlH, fun id b hid => ?_, fun id b g hid hg => ?_, I.below.trans hb, ent, dis, (I.len.trans (put_size _ _ _).symm), fun k hk ok d u hok hd hu => ?_, fun t u ht hno => ?_, (put_defers _ _ _).trans I.def_⟩
  · rcases (hS' j).1 hj with rfl | hj
    · exact (hS' k).2 (.inr (hS k hk))
    · exact (hS' k).2 (.inr (I.closed j hj k hk))
  · rcases (hS' j).1 hj with rfl | hj
    · exact hi
    · exact I.heads j hj
  · refine ((I.hb id b hid).keep hb.size fun g _ hg => hb.block g (I.hocc id b g hid hg)).move (fun k => by rw [h0 id (List.getElem?_eq_some_iff.1 hid).1]) hlH
  · exact I.hocc id b g hid ((Occ_congr fun k => by rw [h0 id (List.getElem?_eq_some_iff.1 hid).1]).1 hg)
  · rcases (hS' k).1 hk with rfl | hk
    · rw [ho] at hok
      cases hok
      rw [hd] at hput ⊢
      obtain ⟨e1, e2⟩ := setL_some _ _ _ _ hput
      rw [e1] at hu
      have hu : v = u := by simpa [e2] using hu
      subst hu
      have : d < a.tmps.size := by rw [← hlen]; exact e2
      simpa [Act.put, this] using hv
    · have hki : i ≠ k := fun e => by rw [← e, hn] at hk; cases hk
      rw [put_getD_ne (c.ord.ap i k o ok d hki ho hok hd).1]
      exact (I.t1 k hk ok d u hok hd hu).later (later_S (S := S) (fun y hy => I.ak hk hy) hn h0 h1)
  · rw [put_getD_ne (hno i o ((hS' i).2 (.inl rfl)) ho)]
    exact (I.t2 t u ht fun k ok hk hok => hno k ok ((hS' k).2 (.inr hk)) hok).later hlH
end
end Go.Proofs.Ytbfepedjnlcgkaa.Pe
