/- Regions that draw their order: one more operation. -/
import Derived.Test.YtbfepedjnlcgkaaPeDrawC
set_option linter.unusedVariables false
namespace Go.Proofs.Ytbfepedjnlcgkaa.Pe
open Go.RowKit
section
variable {P : Program} {T : Tys} {call : CallF} {ops : List Oper} {H : Heap} {tm0 : List V} {n : Nat} {R : Nat → Rg} {ρ0 ρ : Ren} {w0 w : World} {a0 a : Act} {S : Nat → Bool}
theorem Ctx.lens (c : Ctx P T call ops H tm0 n R) {i : Nat} (hi : i ≤ n) : (R i).own.length = (R i).N.length ∧ (R i).upd.length = (R i).N.length := c.tab.lens i hi
theorem Ctx.viewLen (c : Ctx P T call ops H tm0 n R) {i : Nat} (hi : i ≤ n) : (viewAt H (clsOf ops []) i (R i)).length = H.length + (R i).N.length := by
  obtain ⟨h1, h2⟩ := c.lens hi
  unfold viewAt
  rw [List.length_append, freeze_len, freeze_len, viewN_len _ _ _ _ h1 h2]
theorem Ctx.viewOld (c : Ctx P T call ops H tm0 n R) {i id : Nat} (hid : id < H.length) : (viewAt H (clsOf ops []) i (R i))[id]? = (H[id]?).map Bk.frz := by
  unfold viewAt
  rw [List.getElem?_append_left (by rw [freeze_len]; exact hid), freeze_get]
/-- An entry of the view. -/
theorem Ctx.viewNew (c : Ctx P T call ops H tm0 n R) {i x : Nat} (hi : i ≤ n) (hx : x < (R i).N.length) : ∃ y u b, (R i).own[x]? = some y ∧ (R i).upd[x]? = some u ∧ (R i).N[x]? = some b ∧
    (viewAt H (clsOf ops []) i (R i))[H.length + x]? = some (Bk.frz (bif bit (clAt (clsOf ops []) i) y then (bif (match u with
    | none => true
    | some j => bit (clAt (clsOf ops []) i) j) then b else .dead b.gb) else .dead 0)) := by
  obtain ⟨h1, h2⟩ := c.lens hi
  have g1 : (R i).own[x]? = some (R i).own[x] := by simp [h1, hx]
  have g2 : (R i).upd[x]? = some (R i).upd[x] := by simp [h2, hx]
  have g3 : (R i).N[x]? = some (R i).N[x] := by simp [hx]
  refine ⟨_, _, _, g1, g2, g3, ?_⟩
  unfold viewAt
  rw [List.getElem?_append_right (by rw [freeze_len]; omega), freeze_len, Nat.add_sub_cancel_left, freeze_get, viewN_get _ _ _ _ x _ _ _ g1 g2 g3]
  rfl
theorem Ctx.gbView (c : Ctx P T call ops H tm0 n R) {i id k : Nat} (hi : i < n) : Gb (viewAt H (clsOf ops []) i (R i)) id k ↔ Gb (Hst H (R n) (Ck ops i)) id k := by
  rw [Gb_Hst]
  have f := c.tab.far' (Nat.le_of_lt hi) (Nat.le_refl n)
  constructor
  · rintro ⟨b, hb, hk⟩
    by_cases hid : id < H.length
    · rw [c.viewOld hid] at hb
      cases h0 : H[id]? with
      | none => simp [h0] at hb
      | some b0 =>
        simp only [h0, Option.map_some, Option.some.injEq] at hb
        subst hb
        exact .inl ⟨b0, h0, by rw [frz_gb] at hk; exact hk⟩
    · have hlt := (List.getElem?_eq_some_iff.1 hb).1
      rw [c.viewLen (Nat.le_of_lt hi)] at hlt
      obtain ⟨y, u, b0, g1, g2, g3, g4⟩ := c.viewNew (Nat.le_of_lt hi) (x := id - H.length) (by omega)
      rw [show H.length + (id - H.length) = id by omega, hb] at g4
      cases g4
      rw [frz_gb] at hk
      obtain ⟨b1, q1, q2⟩ := f.gb _ _ g3
      cases hy : bit (clAt (clsOf ops []) i) y with
      | false => simp only [hy, cond_false, Bk.gb] at hk; omega
      | true =>
        refine .inr ⟨id - H.length, y, b1, by omega, (f.own _ (by omega)).trans g1, q1, hy, ?_⟩
        rw [q2]
        simp only [hy, cond_true] at hk
        split at hk
        · simpa using hk
        · rename_i j
          cases hj : bit (clAt (clsOf ops []) i) j <;> simp only [hj, cond_true, cond_false] at hk
          · exact hk
          · exact hk
  · rintro (⟨b, hb, hk⟩ | ⟨x, y, b, rfl, h1, h2, hA, hk⟩)
    · exact ⟨b.frz, by rw [c.viewOld (List.getElem?_eq_some_iff.1 hb).1, hb]; rfl, by rw [frz_gb]; exact hk⟩
    · have hi' : i < ops.length := Nat.lt_of_lt_of_le hi c.n_le
      have hy := c.ord.lt i hi' y hA
      have hx : x < (R i).N.length := (c.tab.owner (Nat.le_of_lt hi) h1).2 hy
      obtain ⟨y', u, b0, g1, g2, g3, g4⟩ := c.viewNew (Nat.le_of_lt hi) hx
      have : y' = y := by
        have := f.own x hx
        rw [h1, g1] at this
        cases this; rfl
      subst this
      obtain ⟨b1, q1, q2⟩ := f.gb _ _ g3
      rw [h2] at q1
      cases q1
      refine ⟨_, g4, ?_⟩
      rw [frz_gb]
      simp only [Ck] at hA
      simp only [hA, cond_true]
      rw [q2] at hk
      split
      · exact hk
      · rename_i j
        cases bit (clAt (clsOf ops []) i) j
        · exact hk
        · exact hk
theorem later_Hst {r : Rg} {A B : Nat → Bool} (h : ∀ y, A y = true → B y = true) : Later ρ (Hst H r A) ρ (Hst H r B) := ⟨fun _ _ _ => rfl, fun id k hg => by
  rw [Gb_Hst] at hg ⊢
  rcases hg with hg | ⟨x, y, b, h0, h1, h2, hA, hk⟩
  · exact .inl hg
  · exact .inr ⟨x, y, b, h0, h1, h2, h y hA, hk⟩⟩
theorem later_H_Hst {r : Rg} {A : Nat → Bool} : Later ρ H ρ (Hst H r A) := ⟨fun _ _ _ => rfl, fun id k hg => Gb_Hst.2 (.inl hg)⟩
/-- What an operation reads of temporaries. -/
theorem Ctx.read (c : Ctx P T call ops H tm0 n R) (I : Inv ops H tm0 n R ρ0 w0 a0 S ρ a w) {i : Nat} (hi : i < n) (hS : ∀ k, bit (clAt (clsOf ops []) i) k = true → S k = true) (hn : S i = false) {o : Oper} (ho : ops[i]? = some o) {t : Tmp} (ht : t ∈ reads ops o) {v : V} (hv : (R i).tm[t]? = some v) :
    VRel ρ (viewAt H (clsOf ops []) i (R i)) v (a.tmps.getD t undef) ∧ t < a.tmps.size := by
  have hview : ∀ {A : Nat → Bool}, (∀ y, A y = true → Ck ops i y = true) → Later ρ (Hst H (R n) A) ρ (viewAt H (clsOf ops []) i (R i)) := fun h => (later_Hst h).trans ⟨fun _ _ _ => rfl, fun id k hg => (c.gbView hi).2 hg⟩
  have hlen : ∀ j, j ≤ n → (R j).tm.length = tm0.length := by
    intro j
    induction j with
    | zero => intro _; rw [c.tm]
    | succ j ih =>
      intro hj
      obtain ⟨o, ho, hs⟩ := c.rstep (i := j) (by omega)
      have hput : ∃ v, putT (R j).tm o.dst v = some (R (j + 1)).tm := by
        by_cases hst : ∃ t pa px, o.op = .store t pa px
        · obtain ⟨t, pa, px, hst⟩ := hst
          obtain ⟨x, off, m, n, cs, ys, cs', v, k, L⟩ := stepR_store hst hs
          exact ⟨_, L.tm'⟩
        · obtain ⟨v, H', _, h1, _⟩ := stepR_other (fun t pa px e => hst ⟨t, pa, px, e⟩) hs
          exact ⟨v, h1⟩
      obtain ⟨v, hput⟩ := hput
      rw [putT_len hput]
      exact ih (by omega)
  have hi' : i < ops.length := Nat.lt_of_lt_of_le hi c.n_le
  have hts : t < a.tmps.size := by
    rw [← I.len, ← hlen i (Nat.le_of_lt hi)]
    exact (List.getElem?_eq_some_iff.1 hv).1
  refine ⟨?_, hts⟩
  rcases c.temp t i (Nat.le_of_lt hi) with ⟨k, ok, k1, k2, k3, k4⟩ | ⟨h1, h2⟩
  · have hk : bit (clAt (clsOf ops []) i) k = true := by
      rcases (c.ord.ap i k o ok t (by omega) ho k2 k3).2 with h | h | h
      · exact h
      · have := c.ord.lt k (List.getElem?_eq_some_iff.1 k2).1 i h
        omega
      · exact absurd ht h
    rw [k4] at hv
    refine (I.t1 k (hS k hk) ok t v k2 k3 hv).later (hview fun y hy => ?_)
    simp only [Ak, Bool.or_eq_true] at hy
    rcases hy with hy | hy
    · rw [beq_nat hy]; exact hk
    · exact c.ord.tr i hi' k y hk hy
  · rw [h2] at hv
    refine (I.t2 t v hv fun k ok hk hok hd => ?_).later (later_H_Hst.trans (hview (A := Ck ops i) fun y hy => hy))
    by_cases hlt : k < i
    · exact h1 k ok hlt hok hd
    · by_cases e : k = i
      · rw [e, hn] at hk; cases hk
      · rcases (c.ord.ap i k o ok t (fun e' => e e'.symm) ho hok hd).2 with h | h | h
        · have := c.ord.lt i hi' k h
          omega
        · have := I.closed k hk i h
          rw [hn] at this; cases this
        · exact absurd ht h
/-- Memory as an operation sees it. -/
theorem Ctx.view (c : Ctx P T call ops H tm0 n R) (I : Inv ops H tm0 n R ρ0 w0 a0 S ρ a w) {i : Nat} (hi : i < n) (hS : ∀ k, bit (clAt (clsOf ops []) i) k = true → S k = true) (hn : S i = false) {Hv : Heap}
    (hlen : Hv.length = H.length + (R i).N.length) (hold : ∀ id, id < H.length → Hv[id]? = (H[id]?).map Bk.frz)
    (hnew : ∀ x b', x < (R i).N.length → Hv[H.length + x]? = some b' → (viewAt H (clsOf ops []) i (R i))[H.length + x]? = some b' ∨ (∃ b y, (R i).own[x]? = some y ∧ (R i).upd[x]? = some none ∧ (R i).N[x]? = some b ∧ bit (clAt (clsOf ops []) i) y = true ∧ b' = b)) : HRel ρ Hv w ∧ ∀ id k, Gb (viewAt H (clsOf ops []) i (R i)) id k → Gb Hv id k := by
  have hgb : ∀ id k, Gb (viewAt H (clsOf ops []) i (R i)) id k → Gb Hv id k := by
    rintro id k ⟨b, hb, hk⟩
    by_cases hid : id < H.length
    · rw [c.viewOld hid] at hb
      exact ⟨b, by rw [hold id hid]; exact hb, hk⟩
    · have hlt := (List.getElem?_eq_some_iff.1 hb).1
      rw [c.viewLen (Nat.le_of_lt hi)] at hlt
      have hx : id - H.length < (R i).N.length := by omega
      have he : H.length + (id - H.length) = id := by omega
      have hlt2 : id < Hv.length := by rw [hlen]; omega
      have hv : Hv[id]? = some Hv[id] := by simp [hlt2]
      rcases hnew (id - H.length) Hv[id] hx (by rw [he]; exact hv) with h | ⟨b0, y, h1, h2, h3, h4, h5⟩
      · rw [he, hb] at h
        have e := Option.some.inj h
        exact ⟨_, hv, by rw [← e]; exact hk⟩
      · obtain ⟨y', u, b1, g1, g2, g3, g4⟩ := c.viewNew (Nat.le_of_lt hi) hx
        rw [he, hb] at g4
        cases g4
        rw [h3] at g3; cases g3
        refine ⟨_, hv, ?_⟩
        rw [h5]
        rw [frz_gb] at hk
        rw [h1] at g1; cases g1
        rw [h2] at g2; cases g2
        simpa [h4] using hk
  have hlv : ∀ {A : Nat → Bool}, (∀ y, A y = true → Ck ops i y = true) → Later ρ (Hst H (R n) A) ρ Hv := fun h => (later_Hst h).trans ⟨fun _ _ _ => rfl, fun id k hg => hgb id k ((c.gbView hi).2 hg)⟩
  -- what stands at a place
  have cas : ∀ id b', Hv[id]? = some b' → (id < H.length ∧ ∃ b, H[id]? = some b ∧ b' = b.frz) ∨ (∃ g, b' = .dead g) ∨ (∃ x y b, id = H.length + x ∧ (R n).own[x]? = some y ∧ S y = true ∧ blkS R n S x = some b ∧ (b' = b ∨ b' = b.frz) ∧ (∀ y', wfS ops R n S x y y' = true → Ck ops i y' = true)) := by
    intro id b' hb
    by_cases hid : id < H.length
    · rw [hold id hid] at hb
      cases h0 : H[id]? with
      | none => simp [h0] at hb
      | some b0 =>
        simp only [h0, Option.map_some, Option.some.injEq] at hb
        exact .inl ⟨hid, b0, rfl, hb.symm⟩
    · have hlt := (List.getElem?_eq_some_iff.1 hb).1
      rw [hlen] at hlt
      have hx : id - H.length < (R i).N.length := by omega
      have he : H.length + (id - H.length) = id := by omega
      rcases hnew (id - H.length) b' hx (by rw [he]; exact hb) with h | ⟨b0, y, h1, h2, h3, h4, rfl⟩
      · obtain ⟨y, u, b1, g1, g2, g3, g4⟩ := c.viewNew (Nat.le_of_lt hi) hx
        rw [h] at g4
        cases g4
        cases hy : bit (clAt (clsOf ops []) i) y with
        | false => exact .inr (.inl ⟨0, rfl⟩)
        | true =>
          simp only [cond_true]
          split
          · obtain ⟨q1, q2, q3, q4⟩ := c.sees I hi hS hn g1 g2 g3 hy (fun j hj => by cases hj)
            exact .inr (.inr ⟨id - H.length, y, b1, by omega, q1, q2, q3, .inr rfl, q4⟩)
          · rename_i j
            cases hj : bit (clAt (clsOf ops []) i) j with
            | false => exact .inr (.inl ⟨_, rfl⟩)
            | true =>
              obtain ⟨q1, q2, q3, q4⟩ := c.sees I hi hS hn g1 g2 g3 hy (fun j' hj' => by cases hj'; exact hj)
              exact .inr (.inr ⟨id - H.length, y, b1, by omega, q1, q2, q3, .inr rfl, q4⟩)
      · obtain ⟨q1, q2, q3, q4⟩ := c.sees I hi hS hn h1 h2 h3 h4 (fun j hj => by cases hj)
        exact .inr (.inr ⟨id - H.length, y, b', by omega, q1, q2, q3, .inl rfl, q4⟩)
  refine ⟨⟨fun id b' hb => ?_, fun i1 i2 b1 b2 g hij hb1 hb2 hw o1 o2 => ?_⟩, hgb⟩
  · rcases cas id b' hb with ⟨hid, b, h1, rfl⟩ | ⟨g, rfl⟩ | ⟨x, y, b, rfl, h1, h2, h3, h4, h5⟩
    · rw [frz_rel]
      exact (I.hb id b h1).move (fun _ => rfl) (later_H_Hst.trans (hlv (A := Ck ops i) fun y hy => hy))
    · trivial
    · have := ((I.ent x y b h1 h2 h3).1).move (fun _ => rfl) (hlv h5)
      rcases h4 with rfl | rfl
      · exact this
      · rw [frz_rel]; exact this
  · have occ2 : ∀ (x y : Nat) (b b' : Bk), (b' = b ∨ b' = b.frz) → ∀ id g, Occ ρ id b' g → Occ ρ id b g := fun x y b b' h id g ho => by
      rcases h with rfl | rfl
      · exact ho
      · exact (frz_occ ρ id b g).1 ho
    rcases cas i1 b1 hb1 with ⟨hid, b, h1, rfl⟩ | ⟨g1, rfl⟩ | ⟨x, y, b, rfl, h1, h2, h3, h4, h5⟩
    · rw [frz_wr] at hw; cases hw
    · cases hw
    · have hb1w : b1 = b := by
        rcases h4 with h4 | h4
        · exact h4
        · rw [h4, frz_wr] at hw; cases hw
      subst hb1w
      rcases cas i2 b2 hb2 with ⟨hid, b', k1, rfl⟩ | ⟨g1, rfl⟩ | ⟨x', y', b', rfl, k1, k2, k3, k4, k5⟩
      · have := (I.ent x y b1 h1 h2 h3).2 g o1
        have := I.hocc i2 b' g k1 ((frz_occ ρ i2 b' g).1 o2)
        omega
      · exact o2.elim
      · exact I.dis x x' y y' b1 b' g (fun e => hij (by rw [e])) h1 k1 h2 k2 h3 k3 hw o1 (occ2 x' y' b' b2 k4 _ g o2)
end
end Go.Proofs.Ytbfepedjnlcgkaa.Pe
