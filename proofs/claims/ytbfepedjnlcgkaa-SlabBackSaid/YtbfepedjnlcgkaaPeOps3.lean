/- A plain reading of the model's code: slices of slices, lengths, values built. -/
import Derived.Test.YtbfepedjnlcgkaaPeOps2
import Derived.MapKept
set_option linter.unusedVariables false
namespace Go.Proofs.Ytbfepedjnlcgkaa.Pe
section
variable {P : Program} {T : Tys} {t : TypeId} {ti : TI} {ρ : Ren} {H : Heap} {w : World} {a : Act}
def ORel (ρ : Ren) (H : Heap) : Option V → Option Value → Prop
  | none, none => True
  | some x, some v => VRel ρ H x v
  | _, _ => False
theorem bnds_rel {b : Bool} {len lim cap l h : Nat} {lo hi : Option V} {lo' hi' : Option Value} (hb : bnds len lim lo hi = some (l, h)) (h1 : ORel ρ H lo lo') (h2 : ORel ρ H hi hi') (hl : len ≤ lim) (hc : lim ≤ cap) :
    (Instr.sliceBounds b len cap lo' hi' none).run P w = .ok (l, h, cap) w ∧ l ≤ h ∧ h ≤ lim := by
  have key : ∀ (c : BoundsCode) (k : IntKind) (j : Int) (n : Nat), 0 ≤ j → j ≤ n → (Instr.sliceBound (.int k j) n c).run P w = .ok j.toNat w := by
    intro c k j n a b
    simp [Instr.sliceBound, asIntOf, a, b]
  unfold bnds at hb
  split at hb
  · cases hb
  · rename_i hh heq
    have hhi : (hi' = none ∧ hh = len) ∨ (∃ k j, hi' = some (.int k j) ∧ 0 ≤ j ∧ j ≤ (lim : Int) ∧ hh = j.toNat) := by
      split at heq
      · cases heq
        cases hi' with
        | none => exact .inl ⟨rfl, rfl⟩
        | some v => exact h2.elim
      · rename_i k j
        obtain ⟨hj, heq⟩ := bif_some heq
        cases heq
        have hj := inN_iff hj
        cases hi' with
        | none => exact h2.elim
        | some v =>
          simp only [ORel, VRel, CRel] at h2
          subst h2
          exact .inr ⟨k, j, rfl, hj.1, by omega, rfl⟩
      · cases heq
    have hlo : (lo' = none ∧ l = 0 ∧ h = hh) ∨ (∃ k j, lo' = some (.int k j) ∧ 0 ≤ j ∧ j ≤ (hh : Int) ∧ l = j.toNat ∧ h = hh) := by
      split at hb
      · cases hb
        cases lo' with
        | none => exact .inl ⟨rfl, rfl, rfl⟩
        | some v => exact h1.elim
      · rename_i k j
        obtain ⟨hj, hb⟩ := bif_some hb
        cases hb
        have hj := inN_iff hj
        cases lo' with
        | none => exact h1.elim
        | some v =>
          simp only [ORel, VRel, CRel] at h1
          subst h1
          exact .inr ⟨k, j, rfl, hj.1, by omega, rfl, rfl⟩
      · cases hb
    clear hb heq h1 h2
    rcases hhi with ⟨rfl, rfl⟩ | ⟨k, j, rfl, hj0, hj1, rfl⟩ <;> rcases hlo with ⟨rfl, rfl, rfl⟩ | ⟨k', j', rfl, hk0, hk1, rfl, rfl⟩
    · exact ⟨by simp [Instr.sliceBounds], by omega, by omega⟩
    · exact ⟨by simp [Instr.sliceBounds, key _ k' j' _ hk0 hk1], by omega, by omega⟩
    · exact ⟨by simp [Instr.sliceBounds, key _ k j cap hj0 (by omega)], by omega, by omega⟩
    · exact ⟨by simp [Instr.sliceBounds, key _ k j cap hj0 (by omega), key _ k' j' _ hk0 hk1], by omega, by omega⟩
theorem string_extract (s : List UInt8) (l h : Nat) (h2 : h ≤ s.length) : (⟨s.toArray⟩ : ByteArray).extract l h = ⟨((s.drop l).take (h - l)).toArray⟩ := by
  apply ByteArray.ext
  rw [ByteArray.data_extract]
  apply Array.ext'
  simp [List.extract_eq_take_drop]
theorem vslice_rel {x z : V} {u : Value} {lo hi : Option V} {lo' hi' : Option Value} (hT : TabOk P T) (h : vslice T t x lo hi = some z) (hx : VRel ρ H x u) (h1 : ORel ρ H lo lo') (h2 : ORel ρ H hi hi') :
    ∃ r, (Instr.sliceAt t u lo' hi' none).run P w = .ok r w ∧ VRel ρ H z r := by
  unfold vslice at h
  split at h
  · rename_i n e s1 s2 s3 s4 hti
    have hu := (hT _ _ hti).kd
    simp only [kdOk] at hu
    split at h
    · rename_i ei id off hei
      split at h
      · rename_i l hh hb
        cases h
        obtain ⟨hr, hlh, hhn⟩ := bnds_rel (P := P) (w := w) (b := false) hb h1 h2 (Nat.le_refl _) (Nat.le_refl _)
        obtain ⟨g, ad, e, rfl⟩ := hx
        refine ⟨_, by simp only [Instr.sliceAt, run_underlying hu, Instr.sureAddr, Sem.run_bind, Sem.run_pure, Result.andThen_ok, hr, (hT _ _ hei).size]; rfl, g, _, rfl, by omega, fun hc => ⟨ad, e, ?_⟩⟩
        rw [if_neg (by omega), add_add]
      · cases h
    · rename_i ei id off gen hei
      split at h
      · rename_i l hh hb
        cases h
        obtain ⟨hr, hlh, hhn⟩ := bnds_rel (P := P) (w := w) (b := false) hb h1 h2 (Nat.le_refl _) (Nat.le_refl _)
        obtain ⟨g, ad, m, c, e, rfl⟩ := hx
        refine ⟨_, by simp only [Instr.sliceAt, run_underlying hu, Instr.sureAddr, Sem.run_bind, Sem.run_pure, Result.andThen_ok, hr, (hT _ _ hei).size]; rfl, g, _, rfl, by omega, fun hc => ⟨ad, m, c, e, ?_⟩⟩
        rw [if_neg (by omega), add_add]
      · cases h
    · cases h
  · rename_i e s1 s2 s3 s4 hti
    have hu := (hT _ _ hti).kd
    simp only [kdOk] at hu
    split at h
    · rename_i ei id off len gen hei
      split at h
      · rename_i l hh hb
        obtain ⟨hs, h⟩ := bif_some h
        have hs := ble_nat hs
        cases h
        obtain ⟨g, hlg, A, c, rfl, hlc, hf, ha⟩ := hx
        obtain ⟨hr, hlh, hhn⟩ := bnds_rel (P := P) (w := w) (b := true) (cap := c) hb h1 h2 (Nat.le_refl _) hlc
        refine ⟨_, by simp only [Instr.sliceAt, Instr.slice, run_underlying hu, Sem.run_bind, Sem.run_pure, Result.andThen_ok, hr, (hT _ _ hei).size]; rfl, g, by omega, _, _, rfl, by omega, fun h3 h4 => ?_, fun h3 => ?_⟩
        · have hl0 : l = 0 := by
            rcases Nat.eq_zero_or_pos l with h | h
            · exact h
            · have := Nat.mul_pos h hs
              omega
          subst hl0
          have h5 : len = gen := by omega
          have h6 : hh = len := by omega
          rw [← hf (by omega) h5, h6]
          by_cases hc0 : c = 0
          · simp [hc0]
          · simp only [hc0, if_false, Nat.zero_mul, Nat.sub_zero]
            cases A <;> simp [add_zero]
        · obtain ⟨ad, m, c', e, rfl⟩ := ha (by omega)
          refine ⟨ad, m, c', e, ?_⟩
          rw [if_neg (by omega)]
          simp [add_add]
      · cases h
    · rename_i ei id off len cap hei
      split at h
      · rename_i l hh hb
        cases h
        obtain ⟨g, A, rfl, hlc, ha⟩ := hx
        obtain ⟨hr, hlh, hhn⟩ := bnds_rel (P := P) (w := w) (b := true) (cap := cap) hb h1 h2 hlc (Nat.le_refl _)
        refine ⟨_, by simp only [Instr.sliceAt, Instr.slice, run_underlying hu, Sem.run_bind, Sem.run_pure, Result.andThen_ok, hr, (hT _ _ hei).size]; rfl, g, _, rfl, by omega, fun h3 => ?_⟩
        obtain ⟨ad, e, rfl⟩ := ha (by omega)
        refine ⟨ad, e, ?_⟩
        rw [if_neg (by omega)]
        simp [add_add]
      · cases h
    · rename_i ei id off len cap gen hei
      split at h
      · rename_i l hh hb
        cases h
        obtain ⟨g, A, rfl, hlc, ha⟩ := hx
        obtain ⟨hr, hlh, hhn⟩ := bnds_rel (P := P) (w := w) (b := true) (cap := cap) hb h1 h2 hlc (Nat.le_refl _)
        refine ⟨_, by simp only [Instr.sliceAt, Instr.slice, run_underlying hu, Sem.run_bind, Sem.run_pure, Result.andThen_ok, hr, (hT _ _ hei).size]; rfl, g, _, rfl, by omega, fun h3 => ?_⟩
        obtain ⟨ad, m, c', e, rfl⟩ := ha (by omega)
        refine ⟨ad, m, c', e, ?_⟩
        rw [if_neg (by omega)]
        simp [add_add]
      · cases h
    · rename_i ei hei
      split at h
      · rename_i lh hb
        cases h
        obtain ⟨l, hh⟩ := lh
        simp only [VRel, CRel] at hx
        subst hx
        obtain ⟨hr, hlh, hhn⟩ := bnds_rel (P := P) (w := w) (b := true) (cap := 0) hb h1 h2 (Nat.le_refl _) (Nat.le_refl _)
        refine ⟨.slice none 0 0, ?_, rfl⟩
        have e1 : l = 0 := by omega
        have e2 : hh = 0 := by omega
        subst e1; subst e2
        simp [Instr.sliceAt, Instr.slice, run_underlying hu, hr, (hT _ _ hei).size]
      · cases h
    · cases h
  · rename_i s1 s2 s3 s4 hti
    have hu := (hT _ _ hti).kd
    simp only [kdOk] at hu
    split at h
    · rename_i s
      split at h
      · rename_i l hh hb
        split at h
        · rename_i s' hs
          cases h
          simp only [VRel, CRel] at hx
          subst hx
          obtain ⟨hr, hlh, hhn⟩ := bnds_rel (P := P) (w := w) (b := false) (cap := s.length) hb h1 h2 (Nat.le_refl _) (Nat.le_refl _)
          obtain ⟨e1, e2⟩ := takeL_some _ _ _ hs
          rw [dropL_eq] at e1
          have hsz : (⟨s.toArray⟩ : ByteArray).size = s.length := by simp [ByteArray.size]
          refine ⟨.string ⟨s'.toArray⟩, ?_, rfl⟩
          simp only [Instr.sliceAt, Instr.slice, run_underlying hu, Sem.run_bind, Sem.run_pure, Result.andThen_ok, hsz, hr, string_extract s l hh hhn, e1, Option.isSome_none, Bool.false_eq_true, if_false]
        · cases h
      · cases h
    · cases h
  · cases h
theorem vlen_rel {x z : V} {u : Value} {ty : TypeId} (hT : TabOk P T) (h : vlen T H t x = some z) (hH : HRel ρ H w) (hx : VRel ρ H x u) : ∃ r, (Builtin.len_ #[t] ty #[u]).run P w = .ok r w ∧ VRel ρ H z r := by
  unfold vlen at h
  split at h
  · rename_i s1 s2 s3 s4 l hti
    have hu := (hT _ _ hti).kd
    simp only [kdOk] at hu
    cases h
    simp only [VRel, CRel] at hx
    subst hx
    exact ⟨_, by simp [Builtin.len_, run_underlying hu]; rfl, by simp [VRel, CRel, goInt, ByteArray.size]⟩
  · rename_i n e s1 s2 s3 s4 hti
    have hu := (hT _ _ hti).kd
    simp only [kdOk] at hu
    cases h
    exact ⟨_, by simp [Builtin.len_, run_underlying hu]; rfl, rfl⟩
  · rename_i e s1 s2 s3 s4 id off n gen hti
    have hu := (hT _ _ hti).kd
    simp only [kdOk] at hu
    cases h
    obtain ⟨g, hlg, A, c, rfl, _⟩ := hx
    exact ⟨_, by simp [Builtin.len_, run_underlying hu]; rfl, rfl⟩
  · rename_i e s1 s2 s3 s4 id off n gen hti
    have hu := (hT _ _ hti).kd
    simp only [kdOk] at hu
    cases h
    obtain ⟨g, A, rfl, _⟩ := hx
    exact ⟨_, by simp [Builtin.len_, run_underlying hu]; rfl, rfl⟩
  · rename_i e s1 s2 s3 s4 id off n cap gen hti
    have hu := (hT _ _ hti).kd
    simp only [kdOk] at hu
    cases h
    obtain ⟨g, A, rfl, _⟩ := hx
    exact ⟨_, by simp [Builtin.len_, run_underlying hu]; rfl, rfl⟩
  · rename_i e s1 s2 s3 s4 hti
    have hu := (hT _ _ hti).kd
    simp only [kdOk] at hu
    cases h
    simp only [VRel, CRel] at hx
    subst hx
    exact ⟨_, by simp [Builtin.len_, run_underlying hu]; rfl, rfl⟩
  · rename_i s0 s1 s2 s3 s4 s5 id hti
    split at h
    · rename_i wr ks hb
      obtain ⟨g, es, cl, e1, e2, e3, _⟩ := hH.blk _ _ (by rw [← getL_eq]; exact hb)
      have hu := (hT _ _ hti).kd
      simp only [kdOk] at hu
      cases h
      obtain ⟨_, r, e4, rfl⟩ := hx
      rw [e1] at e4
      cases e4
      have hl : es.size = ks.length := by
        have := congrArg List.length e3
        simpa using this
      refine ⟨_, by simp [Builtin.len_, run_underlying hu, Go.MapKept.run_getObj_map e2, Result.andThen]; rfl, ?_⟩
      simp [VRel, CRel, goInt, hl]
    · cases h
  · cases h
theorem vasPtr_rel {x z : V} {u : Value} (hT : TabOk P T) (h : vasPtr T t x = some z) (hx : VRel ρ H x u) : ∃ r, (Instr.arrayAt t u).run P w = .ok r w ∧ VRel ρ H z r := by
  unfold vasPtr at h
  split at h
  · rename_i n e s1 s2 s3 s4 id off len cap hti
    have hu := (hT _ _ hti).kd
    simp only [kdOk] at hu
    obtain ⟨hc, h⟩ := bif_some h
    cases h
    simp only [Bool.and_eq_true] at hc
    have c1 := ble_nat hc.1
    have c2 := ble_nat hc.2
    obtain ⟨g, A, rfl, hlc, ha⟩ := hx
    obtain ⟨ad, e, rfl⟩ := ha (by omega)
    have hn : ¬ len < n := by omega
    exact ⟨.pointer (some (ad.add off)), by simp [Instr.arrayAt, run_underlying hu, hn], g, ad, e, rfl⟩
  · rename_i n e s1 s2 s3 s4 id off len gen hti
    have hu := (hT _ _ hti).kd
    simp only [kdOk] at hu
    obtain ⟨hc, h⟩ := bif_some h
    cases h
    simp only [Bool.and_eq_true] at hc
    have c1 := ble_nat hc.1
    have c2 := ble_nat hc.2
    obtain ⟨g, hlg, A, c, rfl, hlc, hf, ha⟩ := hx
    obtain ⟨ad, m, c', e, rfl⟩ := ha (by omega)
    have hn : ¬ len < n := by omega
    exact ⟨.pointer (some (ad.add off)), by simp [Instr.arrayAt, run_underlying hu, hn], g, ad, m, c', e, rfl⟩
  · cases h
/-! values built -/
theorem splice_some {m off n : Nat} {cs ys cs' : List C} (h : splice m cs off n ys = some cs') (hm : cs.length = m) (hy : ys.length = n) : cs' = cs.take off ++ ys ++ cs.drop (off + n) ∧ off + n ≤ m ∧ cs'.length = m := by
  unfold splice at h
  cases hb : (Nat.beq off 0 && Nat.beq n m) with
  | true =>
    simp only [hb, cond_true, Option.some.injEq] at h
    simp only [Bool.and_eq_true] at hb
    have h1 := beq_nat hb.1
    have h2 := beq_nat hb.2
    subst h1; subst h2; subst h
    refine ⟨?_, by omega, hy⟩
    rw [List.take_zero, List.nil_append, Nat.zero_add, List.drop_of_length_le (by omega), List.append_nil]
  | false =>
    simp only [hb, cond_false] at h
    obtain ⟨h1, h2⟩ := spliceL_some _ _ _ _ h
    subst hy
    refine ⟨h1, by omega, ?_⟩
    rw [h1]
    simp
    omega
theorem Cels.splice {cs ys cs' : List C} {vs us : List Value} {m off n : Nat} (h : splice m cs off n ys = some cs') (hm : cs.length = m) (hy : ys.length = n) (h1 : Cels ρ H cs vs) (h2 : Cels ρ H ys us) : Cels ρ H cs' (vs.take off ++ us ++ vs.drop (off + n)) := by
  obtain ⟨e, _, _⟩ := splice_some h hm hy
  rw [e]
  exact ((h1.take off).append h2).append (h1.drop _)
theorem fold_splice (off : Nat) : ∀ (us : List Value) (k : Nat) (cs : Array Value), off + k + us.length ≤ cs.size →
    ((us.zipIdx k).foldl (fun cs (x : Value × Nat) => cs.setIfInBounds (off + x.2) x.1) cs).toList = cs.toList.take (off + k) ++ us ++ cs.toList.drop (off + k + us.length)
  | [], k, cs, h => by simp
  | u :: us, k, cs, h => by
    simp only [List.zipIdx_cons, List.foldl_cons]
    have hlen : off + (k + 1) + us.length ≤ (cs.setIfInBounds (off + k) u).size := by simp at h ⊢; omega
    rw [fold_splice off us (k + 1) _ hlen]
    simp only [Array.toList_setIfInBounds, List.length_cons]
    have hk : off + k < cs.toList.length := by simp at h ⊢; omega
    rw [show off + (k + 1) = off + k + 1 by omega, show off + k + (us.length + 1) = off + k + 1 + us.length by omega]
    rw [List.drop_set_of_lt (by omega), List.take_succ_eq_append_getElem (by simpa using hk), List.take_set_of_le (Nat.le_refl _)]
    simp
theorem fill_rel {place place' : Nat → Option (Nat × Nat)} {m : Nat} (hp : ∀ i x, place i = some x → place' i = some x) : ∀ {ps : List (Nat × V)} {qs : List (Nat × Value)} {cs cs' : List C} {vs : Array Value},
    fillC place m ps cs = some cs' → All2 (fun (x : Nat × V) (y : Nat × Value) => x.1 = y.1 ∧ VRel ρ H x.2 y.2) ps qs → cs.length = m → Cels ρ H cs vs.toList → ∃ vs', Instr.fill place' vs qs = some vs' ∧ cs'.length = m ∧ Cels ρ H cs' vs'.toList
  | [], qs, cs, cs', vs, h, hq, hm, hc => by
    cases h
    obtain rfl : qs = [] := List.eq_nil_of_length_eq_zero hq.1.symm
    exact ⟨vs, rfl, hm, hc⟩
  | p :: ps, [], cs, cs', vs, h, hq, hm, hc => by have := hq.1; simp at this
  | p :: ps, q :: qs, cs, cs', vs, h, hq, hm, hc => by
    have h2 : (match place p.1, p.2.cells with
      | some (off, size), some (n, ys) => bif Nat.beq n size then match splice m cs off n ys with
        | some cs' => fillC place m ps cs'
        | none => none
        else none
      | _, _ => none) = some cs' := h
    split at h2
    · rename_i off size n ys h3 h4
      obtain ⟨hn, h2'⟩ := bif_some h2
      clear h2
      have hn := beq_nat hn
      subst hn
      split at h2'
      · rename_i cs1 h5
        obtain ⟨hq1, hq2⟩ := hq.2 0 _ _ rfl rfl
        obtain ⟨hy1, hy2⟩ := cells_rel h4 hq2
        obtain ⟨e, hle, hl1⟩ := splice_some h5 hm hy1
        have hus : q.2.cells.size = n := by have := hy2.1; rw [hy1] at this; simpa using this.symm
        have hvs : vs.size = m := by have := hc.1; rw [hm] at this; simpa using this.symm
        have hfold := fold_splice off q.2.cells.toList 0 vs (by simp; omega)
        rw [← Array.toList_zipIdx, Array.foldl_toList] at hfold
        simp only [Nat.add_zero, Array.length_toList, hus] at hfold
        have hc1 : Cels ρ H cs1 (q.2.cells.zipIdx.foldl (fun cs (x : Value × Nat) => cs.setIfInBounds (off + x.2) x.1) vs).toList := by
          rw [hfold]
          exact Cels.splice h5 hm hy1 hc hy2
        obtain ⟨vs', h6, h7, h8⟩ := fill_rel hp (ps := ps) (qs := qs) h2' ⟨by simpa using hq.1, fun i x y a b => hq.2 (i + 1) x y (by simpa using a) (by simpa using b)⟩ hl1 hc1
        refine ⟨vs', ?_, h7, h8⟩
        have hp' := hp _ _ h3
        rw [hq1] at hp'
        obtain ⟨q1, q2⟩ := q
        simp only [Instr.fill, hp']
        have hcond : (decide (q2.cells.size ≠ n) || decide (off + q2.cells.size > vs.size)) = false := by simp; simp at hus; omega
        simp only [hcond, Bool.false_eq_true, if_false]
        exact h6
      · cases h2'
    · cases h2
theorem vbuild_rel {ps : List (Nat × V)} {qs : Array (Nat × Value)} {z : V} (hT : TabOk P T) (h : vbuild T t ps = some z) (hq : All2 (fun (x : Nat × V) (y : Nat × Value) => x.1 = y.1 ∧ VRel ρ H x.2 y.2) ps qs.toList) :
    ∃ r, (Instr.build t qs).run P w = .ok r w ∧ VRel ρ H z r := by
  unfold vbuild at h
  split at h
  · rename_i ti hti
    have ht := hT _ _ hti
    obtain ⟨i, zv, hi1, hi2, hi3, hi4, hi5, hi6⟩ := ht.info
    have hz : Cels ρ H ti.zero zv.cells.toList := cellsOf_rel hi5
    have hkd := ht.kd
    split at h
    · rename_i fs hk
      rw [hk] at hkd
      obtain ⟨F, hu, hF, hall⟩ := hkd
      split at h
      · rename_i cs hf
        cases h
        have hpl : ∃ places, F.toList.mapM (fun f => (P.info? f.type).map fun i => (f.offset, i.size)) = some places ∧ ∀ (j : Nat) fd ii, F.toList[j]? = some fd → P.info? fd.type = some ii → places[j]? = some (fd.offset, ii.size) := by
          have : ∀ (L : List Field), (∀ f ∈ L, (P.info? f.type).isSome = true) → ∃ places, L.mapM (fun f => (P.info? f.type).map fun i => (f.offset, i.size)) = some places ∧ ∀ (j : Nat) fd ii, L[j]? = some fd → P.info? fd.type = some ii → places[j]? = some (fd.offset, ii.size) := by
            intro L
            induction L with
            | nil => intro _; exact ⟨[], by simp, fun j fd ii h => by simp at h⟩
            | cons f L ih =>
              intro hL
              obtain ⟨places, h1, h2⟩ := ih (fun f hf => hL f (List.mem_cons_of_mem _ hf))
              obtain ⟨ii, hii⟩ := Option.isSome_iff_exists.1 (hL f List.mem_cons_self)
              refine ⟨(f.offset, ii.size) :: places, by simp [List.mapM_cons, hii, h1], fun j fd i2 hj hi => ?_⟩
              cases j with
              | zero =>
                simp at hj
                subst hj
                rw [hii] at hi
                cases hi
                rfl
              | succ j => exact h2 j fd i2 (by simpa using hj) hi
          exact this F.toList hall
        obtain ⟨places, hp1, hp2⟩ := hpl
        obtain ⟨vs', h6, h7, h8⟩ := fill_rel (place' := (places.toArray[·]?)) (fun j x hx => by
          split at hx
          · rename_i off ft hg
            rw [getL_eq, ← hF, List.getElem?_map] at hg
            cases hq : F.toList[j]? with
            | none => simp [hq] at hg
            | some fd =>
              simp only [hq, Option.map_some, Option.some.injEq, Prod.mk.injEq] at hg
              obtain ⟨rfl, rfl⟩ := hg
              split at hx
              · rename_i fi hfi
                cases hx
                obtain ⟨ii, _, g1, g2, _⟩ := (hT _ _ hfi).info
                have := hp2 j fd ii hq g1
                simpa [g2] using this
              · cases hx
          · cases hx) hf hq hi6 hz
        refine ⟨.agg vs', run_build w t qs vs' ?_, vs', rfl, h7, h8⟩
        simp only [Program.built, hi1, hu, hi4, hp1]
        exact h6
      · cases h
    · rename_i n e hk
      rw [hk] at hkd
      simp only [kdOk] at hkd
      split at h
      · rename_i ei hei
        split at h
        · rename_i cs hf
          cases h
          obtain ⟨ii, _, g1, g2, _⟩ := (hT _ _ hei).info
          obtain ⟨vs', h6, h7, h8⟩ := fill_rel (place' := fun j => some (j * ei.size, ei.size)) (fun j x hx => hx) hf hq hi6 hz
          refine ⟨.agg vs', run_build w t qs vs' ?_, vs', rfl, h7, h8⟩
          simp only [Program.built, hi1, hkd, hi4, g1, g2]
          exact h6
        · cases h
      · cases h
    · cases h
  · cases h
end
end Go.Proofs.Ytbfepedjnlcgkaa.Pe
