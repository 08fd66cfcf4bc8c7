/- A plain reading of the model's code: appends, copies, conversions. -/
import Derived.Test.YtbfepedjnlcgkaaPeOps5
set_option linter.unusedVariables false
namespace Go.Proofs.Ytbfepedjnlcgkaa.Pe
open Go.RowKit
open Go.Proofs.Ytbfepedjnlcgkaa.B (run_append_keep own_prefix lt_of_blk add_at)
section
variable {P : Program} {T : Tys} {t : TypeId} {ti : TI} {ρ : Ren} {H : Heap} {w w' : World} {a : Act}
theorem rdSl_rel {x : C} {sz m : Nat} {cs : List C} {v : Value} (h : rdSl H x sz = some (m, cs)) (hH : HRel ρ H w) (hv : CRel ρ H x v) :
    ∃ A c, v = .slice A m c ∧ m ≤ c ∧ cs.length = m * sz ∧ (m = 0 ∨ 0 < m ∧ ∃ ad vs, A = some ad ∧ Cels ρ H cs vs ∧ Lies w ad vs) := by
  cases x <;> simp only [rdSl, reduceCtorEq, Option.some.injEq, Prod.mk.injEq] at h
  case ns =>
    obtain ⟨rfl, rfl⟩ := h
    simp only [CRel] at hv
    exact ⟨none, 0, hv, Nat.le_refl _, by simp, .inl rfl⟩
  case sl id off len gen =>
    obtain ⟨g, hlg, A, c, rfl, hlc, hf, ha⟩ := hv
    cases hz : Nat.beq len 0 with
    | true =>
      simp only [hz, cond_true, Option.some.injEq, Prod.mk.injEq] at h
      have hz := beq_nat hz
      obtain ⟨rfl, rfl⟩ := h
      subst hz
      exact ⟨A, c, rfl, by omega, by simp, .inl rfl⟩
    | false =>
      simp only [hz, cond_false] at h
      have hz' : len ≠ 0 := fun e => by rw [e] at hz; simp at hz
      split at h
      · rename_i cs' hr
        simp only [Option.some.injEq, Prod.mk.injEq] at h
        obtain ⟨rfl, rfl⟩ := h
        obtain ⟨ad, n, c', e, rfl⟩ := ha (by omega)
        obtain ⟨ad', vs, h1, h2, h3, h4⟩ := rdAt_rel hr hH (v := .pointer (some (ad.add off))) ⟨g, ad, n, c', e, rfl⟩
        injection h1 with h1; injection h1 with h1
        subst h1
        exact ⟨_, c, rfl, hlc, h2, .inr ⟨by omega, _, vs, rfl, h3, h4⟩⟩
      · cases h
  case va id off len cap =>
    obtain ⟨g, A, rfl, hlc, ha⟩ := hv
    cases hz : Nat.beq len 0 with
    | true =>
      simp only [hz, cond_true, Option.some.injEq, Prod.mk.injEq] at h
      have hz := beq_nat hz
      obtain ⟨rfl, rfl⟩ := h
      subst hz
      exact ⟨A, cap, rfl, by omega, by simp, .inl rfl⟩
    | false =>
      simp only [hz, cond_false] at h
      have hz' : len ≠ 0 := fun e => by rw [e] at hz; simp at hz
      split at h
      · rename_i cs' hr
        simp only [Option.some.injEq, Prod.mk.injEq] at h
        obtain ⟨rfl, rfl⟩ := h
        obtain ⟨ad, e, rfl⟩ := ha (by omega)
        obtain ⟨ad', vs, h1, h2, h3, h4⟩ := rdAt_rel hr hH (v := .pointer (some (ad.add off))) ⟨g, ad, e, rfl⟩
        injection h1 with h1; injection h1 with h1
        subst h1
        exact ⟨_, cap, rfl, hlc, h2, .inr ⟨by omega, _, vs, rfl, h3, h4⟩⟩
      · cases h
  case vr id off len cap gen =>
    obtain ⟨g, A, rfl, hlc, ha⟩ := hv
    cases hz : Nat.beq len 0 with
    | true =>
      simp only [hz, cond_true, Option.some.injEq, Prod.mk.injEq] at h
      have hz := beq_nat hz
      obtain ⟨rfl, rfl⟩ := h
      subst hz
      exact ⟨A, cap, rfl, by omega, by simp, .inl rfl⟩
    | false =>
      simp only [hz, cond_false] at h
      have hz' : len ≠ 0 := fun e => by rw [e] at hz; simp at hz
      split at h
      · rename_i cs' hr
        simp only [Option.some.injEq, Prod.mk.injEq] at h
        obtain ⟨rfl, rfl⟩ := h
        obtain ⟨ad, n, c', e, rfl⟩ := ha (by omega)
        obtain ⟨ad', vs, h1, h2, h3, h4⟩ := rdAt_rel hr hH (v := .pointer (some (ad.add off))) ⟨g, ad, n, c', e, rfl⟩
        injection h1 with h1; injection h1 with h1
        subst h1
        exact ⟨_, cap, rfl, hlc, h2, .inr ⟨by omega, _, vs, rfl, h3, h4⟩⟩
      · cases h
theorem run_append_zero {e : TypeId} {i : TypeInfo} {ty : TypeId} (ht : P.underlying t = some (.slice e)) (hi : P.info? e = some i) (A B : Option Addr) (n cap c : Nat) (hn : n ≤ cap) (w : World) :
    (Builtin.append_ #[t, t] ty #[.slice B n cap, .slice A 0 c]).run P w = .ok (.slice B n cap) w := by
  cases A <;> cases B <;> simp [Builtin.append_, run_underlying ht, sizeOf, typeInfo, hi, Builtin.lenOf, Builtin.firstCells, loadCells, loadCellsFrom, hn, storeCells]
theorem own_same {e : TypeId} {sz k : Nat} {u : Value} {zs : List Value} (h : w.ownsRow 0 e sz u k zs) (hs : ∀ g, g < w.heap.size → u.ownBlock = some g → w'.heap[g]? = w.heap[g]?) : w'.ownsRow 0 e sz u k zs := by
  refine ⟨h.1, ?_⟩
  rcases h.2 with h1 | ⟨g, cap, cur, h1, h2, h3, r⟩
  · exact .inl h1
  · exact .inr ⟨g, cap, cur, h1, h2, (hs g (lt_of_blk h3) (by rw [h1]; rfl)).trans h3, r⟩
/-- What an append leaves of a row and of all others. -/
theorem append_row (t ty e : TypeId) (i : TypeInfo) (z : Value) (sz : Nat) (ht : P.underlying t = some (.slice e)) (hi : P.info? e = some i) (hz : i.zero = some z)
    (hsize : i.size = sz) (hzs : z.cells.size = sz) (hsz : 0 < sz)
    {v : Value} {n : Nat} {xs : List Value} (hown : w.ownsRow 0 e sz v n xs)
    (a : Addr) (m c : Nat) (news : List Value) (hl : news.length = m * sz) (hnews : Lies w a news) (h1 : ∀ u ∈ news, u.oneCell' = true)
    (h63 : n + m ≤ maxLen) (hbytes : (n + m) * i.bytes ≤ 140737488355328) :
    ∃ v' w', (Builtin.append_ #[t, t] ty #[v, .slice (some a) m c]).run P w = .ok v' w' ∧ w'.ownsRow 0 e sz v' (n + m) (xs ++ news) ∧ w.grownBy w' v.ownBlock ∧ (v'.ownBlock = v.ownBlock ∨ v'.ownBlock = some w.heap.size) ∧
      ∀ u k zs, k ≤ n → w.ownsRow 0 e sz u k zs → w'.ownsRow 0 e sz u k zs := by
  obtain ⟨v', w', hr, h2, h3, h4, h5⟩ := run_append_own_at (P := P) w 0 t ty e i z sz i.bytes ht hi hz hsize rfl hzs hsz v n xs hown a m c news hl hnews h1 h63 hbytes (Nat.zero_le _)
  refine ⟨v', w', hr, h2, h3, h5, fun u k zs hk hu => ?_⟩
  have hsmall : n + m ≤ 9223372036854775807 := by simp only [maxLen] at h63; omega
  rcases hown.2 with ⟨rfl, rfl⟩ | ⟨g, cap, cur, rfl, hbg, hg, hnc, hcm, hcs, htake⟩
  · exact own_same hu (fun g hg _ => h3.block g hg (by simp [Value.ownBlock]))
  · by_cases hroom : n + m ≤ cap
    · obtain ⟨w2, hr2, ho2, _⟩ := run_append_fits (P := P) w 0 t ty e i sz ht hi hsize g n cap xs hown a m c news hl hnews h1 hroom
      rw [hr2] at hr
      injection hr with e1 e2
      subst e1; subst e2
      by_cases hug : u.ownBlock = some g
      · rcases hu.2 with ⟨rfl, rfl⟩ | ⟨g', cap', cur', rfl, q2, q3, q4, q5, q6, q7⟩
        · simp [Value.ownBlock] at hug
        · have : g' = g := by simpa [Value.ownBlock] using hug
          subst this
          rw [hg] at q3
          injection q3 with q3; injection q3 with q3
          subst q3
          have hcc : cap' = cap := Nat.eq_of_mul_eq_mul_right hsz (q6.symm.trans hcs)
          subst hcc
          rcases ho2.2 with ⟨h, _⟩ | ⟨g2, cap2, cur2, r1, r2, r3, r4, r5, r6, r7⟩
          · cases h
          · injection r1 with r1 r1b r1c
            injection r1 with r1; injection r1 with r1
            subst r1; subst r1c
            refine ⟨hu.1, .inr ⟨g', cap', cur2, rfl, Nat.zero_le _, r3, q4, q5, r6, ?_⟩⟩
            have hkn : k * sz ≤ n * sz := Nat.mul_le_mul_right _ hk
            have hkm : k * sz ≤ (n + m) * sz := Nat.mul_le_mul_right _ (by omega)
            have h6 := congrArg (List.take (k * sz)) r7
            rw [List.take_take, Nat.min_eq_left hkm, List.take_append_of_le_length (by rw [hown.1]; exact hkn), ← htake, List.take_take, Nat.min_eq_left hkn] at h6
            rw [h6]; exact q7
      · exact own_same hu (fun g' hg' he => h3.block g' hg' (by rw [← he]; exact hug))
    · subst hsize
      have holds : ∀ j u, xs[j]? = some u → w.cell? ((⟨g, 0, none⟩ : Addr).add j) = some u := hown.cells (g := g) rfl
      have hr2 := run_append_grow (P := P) w t ty e i z ht hi hz ⟨g, 0, none⟩ n cap xs hown.1 holds a m c news hl hnews (by omega) (by omega) (growslice_fits (by omega) hbytes)
      rw [hr2] at hr
      injection hr with e1 e2
      subst e2
      exact own_same hu (fun g' hg' _ => heap_alloc_old w.drew _ hg')
/-- A row's slice, cut at k. -/
def cutS (v : Value) (k : Nat) : Value := match v with
  | .slice A _ c => .slice A k c
  | v => v
theorem own_cut {e : TypeId} {sz n k : Nat} {v : Value} {xs : List Value} (h : w.ownsRow 0 e sz v n xs) (hk : k ≤ n) (hn : 0 < n) : w.ownsRow 0 e sz (cutS v k) k (xs.take (k * sz)) ∧ (cutS v k).ownBlock = v.ownBlock := by
  rcases h.2 with ⟨rfl, rfl⟩ | ⟨g, cap, cur, rfl, h1, h2, h3, h4, h5, h6⟩
  · omega
  · have hkn : k * sz ≤ n * sz := Nat.mul_le_mul_right _ hk
    refine ⟨⟨by rw [List.length_take, h.1]; omega, .inr ⟨g, cap, cur, rfl, h1, h2, by omega, h4, h5, ?_⟩⟩, rfl⟩
    rw [← h6, List.take_take, Nat.min_eq_left hkn]
theorem vappend_rel {t2 ty : TypeId} {s x : V} {u v : Value} {r : V × Heap} (hT : TabOk P T) (hH : HRel ρ H w) (h : vappend T H t t2 s x = some r) (hs : VRel ρ H s u) (hx : VRel ρ H x v) :
    ∃ cv ρ' w', (Builtin.append_ #[t, t2] ty #[u, v]).run P w = .ok cv w' ∧ VRel ρ' r.2 r.1 cv ∧ Step ρ H w ρ' r.2 w' := by
  unfold vappend at h
  split at h
  rotate_left
  · cases h
  rename_i e s1 s2 s3 s4 t2i s x hti ht2
  have hu := (hT _ _ hti).kd
  simp only [kdOk] at hu
  split at h
  · cases h
  rotate_left
  · cases h
  rename_i ei hei hkd
  cases htt : Nat.beq t t2 with
  | false => simp [htt] at h
  | true =>
  have htt' := beq_nat htt
  subst htt'
  simp only [htt, Bool.not_true, cond_false] at h
  split at h
  rotate_left
  · cases h
  rename_i m new hr
  have hc := (bif_some h).1
  replace h := (bif_some h).2
  simp only [Bool.and_eq_true] at hc
  have c1 := ble_nat hc.1
  have c2 := ble_nat hc.2
  obtain ⟨i, z, i1, i2, i3, i4, i5, i6⟩ := (hT _ _ hei).info
  have hz : Cels ρ H ei.zero z.cells.toList := cellsOf_rel i5
  have hzs : z.cells.size = ei.size := by have := hz.1; rw [i6] at this; simpa using this.symm
  obtain ⟨A, c, rfl, hmc, hnl, hlie⟩ := rdSl_rel hr hH hx
  have lim : ∀ k, k * ei.bytes ≤ 140737488355328 → k ≤ 140737488355328 := fun k hk => Nat.le_trans (Nat.le_mul_of_pos_right _ c2) hk
  split at h
  · -- onto nothing
    have hb := (bif_some h).1
    replace h := (bif_some h).2
    have hb := ble_nat hb
    cases h
    simp only [VRel, CRel] at hs
    subst hs
    rcases hlie with rfl | ⟨hm0, ad, vs, rfl, h3, h4⟩
    · have hnew : new = [] := List.eq_nil_of_length_eq_zero (by rw [hnl]; simp)
      subst hnew
      obtain ⟨ρ', k1, k2⟩ := alloc_row (e := e) (v := .slice none 0 0) (vs := []) hH (Below.refl _ _) c1 (Nat.zero_le _) (by simp) All2.nil (World.ownsRow_nil w 0 e ei.size) (fun g hg => by simp [Value.ownBlock] at hg)
      exact ⟨_, ρ', w, run_append_zero hu i1 A none 0 0 c (Nat.le_refl _) w, k1, k2⟩
    · have hvl : vs.length = m * ei.size := h3.1.symm.trans hnl
      obtain ⟨v', w', q1, q2, q3, q4, _⟩ := append_row (P := P) (w := w) t ty e i z ei.size hu i1 i4 i2 hzs c1 (v := .slice none 0 0) (n := 0) (xs := []) (World.ownsRow_nil w 0 e ei.size) ad m c vs hvl h4 h3.ones (by simp only [maxLen]; have := lim m hb; omega) (by rw [i3]; simpa using hb)
      simp only [Nat.zero_add, List.nil_append] at q2
      obtain ⟨ρ', k1, k2⟩ := alloc_row (w' := w') (e := e) hH ⟨q3.os, q3.tape, q3.output, q3.size, fun g hg => q3.block g hg (by simp [Value.ownBlock])⟩ c1 (lim m hb) hnl h3 q2 (fun g hg => by
        rcases q4 with q4 | q4
        · rw [q4] at hg; simp [Value.ownBlock] at hg
        · rw [q4] at hg; injection hg with hg; omega)
      exact ⟨_, ρ', w', q1, k1, k2⟩
  · -- onto a row
    rename_i id off len gen
    split at h
    rotate_left
    · cases h
    rename_i cs n lo sz e' hb
    rw [getL_eq] at hb
    have hq := (bif_some h).1
    replace h := (bif_some h).2
    simp only [Bool.and_eq_true] at hq
    obtain ⟨⟨⟨⟨⟨p1, p2⟩, p3⟩, p4⟩, p5⟩, p6⟩ := hq
    have p1 := beq_nat p1
    have p2 := beq_nat p2
    have p3 := beq_nat p3
    have p4 := beq_nat p4
    have p5 := beq_nat p5
    have p6 := ble_nat p6
    subst p1; subst p2; subst p3; subst p4; subst p5
    split at h
    rotate_left
    · cases h
    rename_i H' hset
    cases h
    obtain ⟨hset, hlt⟩ := setL_some _ _ _ _ hset
    subst hset
    rw [appL_eq]
    obtain ⟨hgb, hlg, A2, c3, rfl, hlc, hfull, hadr⟩ := hs
    have hfull := hfull rfl rfl
    obtain ⟨hsz, hm, ⟨hn, hlo⟩, hall⟩ := hH.blk _ _ hb
    obtain ⟨xs, h3, h4⟩ := hall gen hlo (Nat.le_refl _)
    rw [← hm, List.take_length] at h3
    rw [← hfull] at h4
    rcases hlie with rfl | ⟨hm0, ad, vs, rfl, g3, g4⟩
    · have hnew : new = [] := List.eq_nil_of_length_eq_zero (by rw [hnl]; simp)
      subst hnew
      have hself : H.set id (.row true (cs ++ []) (gen + 0) lo ei.size e') = H := by
        rw [List.append_nil, Nat.add_zero]
        have := (List.getElem?_eq_some_iff.1 hb).2
        rw [← this]
        exact List.set_getElem_self hlt
      refine ⟨_, ρ, w, run_append_zero hu i1 A A2 gen c3 c hlc w, ?_, ?_⟩
      · show VRel ρ (H.set id _) _ _
        rw [hself]
        exact ⟨hgb, Nat.le_refl _, A2, c3, rfl, hlc, fun _ _ => hfull, hadr⟩
      · show Step ρ H w ρ (H.set id _) w
        rw [hself]
        exact Step.refl hH
    · have hvl : vs.length = m * ei.size := g3.1.symm.trans hnl
      obtain ⟨v', w', q1, q2, q3, q4, q5⟩ := append_row (P := P) (w := w) t ty e' i z ei.size hu i1 i4 i2 hzs c1 h4 ad m c vs hvl g4 g3.ones (by simp only [maxLen]; have := lim _ p6; omega) (by rw [i3]; exact p6)
      have hbn := lim _ p6
      have hcut : cutS v' (gen + m) = v' := by
        rcases q2.2 with ⟨rfl, h0⟩ | ⟨g, cap, cur, rfl, _⟩
        · omega
        · rfl
      have hown : (cs ++ new).length = (gen + m) * ei.size := by rw [List.length_append, hm, hnl, Nat.add_mul]
      have hlater : Later ρ H (turn ρ id (fun k => if k ≤ gen then ρ id k else cutS v' k)) (H.set id (.row true (cs ++ new) (gen + m) lo ei.size e')) := by
        refine ⟨fun i k ⟨b, kb, kk⟩ => ?_, fun i k ⟨b, kb, kk⟩ => ?_⟩
        · by_cases ei' : i = id
          · subst ei'
            rw [hb] at kb; cases kb
            rw [turn_same]
            exact if_pos (Nat.le_of_lt_succ kk)
          · exact turn_other _ _ _ ei' k
        · by_cases ei' : i = id
          · subst ei'
            rw [hb] at kb; cases kb
            refine ⟨.row true (cs ++ new) (gen + m) lo ei.size e', by simp [hlt], ?_⟩
            have kk : k < gen + 1 := kk
            show k < gen + m + 1
            omega
          · exact ⟨b, by rw [List.getElem?_set_ne (fun h => ei' h.symm)]; exact kb, kk⟩
      have hrvn : (if gen + m ≤ gen then ρ id (gen + m) else cutS v' (gen + m)) = v' := by rw [if_neg (by omega), hcut]
      refine ⟨v', turn ρ id (fun k => if k ≤ gen then ρ id k else cutS v' k), w', q1, ?_, ?_⟩
      · refine ⟨⟨.row true (cs ++ new) (gen + m) lo ei.size e', by simp [hlt], Nat.lt_succ_self _⟩, Nat.le_refl _, ?_⟩
        rcases q2.2 with ⟨rfl, h0⟩ | ⟨g, cap, cur, rfl, _, _, k1, _⟩
        · omega
        · exact ⟨_, cap, rfl, k1, fun _ _ => by rw [turn_same]; exact hrvn.symm, fun _ => ⟨_, _, _, by rw [turn_same]; exact hrvn, by rw [add_zero]⟩⟩
      · refine step_set (b1 := .row true (cs ++ new) (gen + m) lo ei.size e') hH hb rfl (by show gen + 1 ≤ gen + m + 1; omega) (fun k hk => if_pos (Nat.le_of_lt_succ hk)) q3.os q3.tape q3.output q3.size (fun g hg hno => q3.block g hg (fun e0 => hno ⟨gen, hlo, Nat.le_refl _, by rw [← hfull]; exact e0.symm⟩)) ⟨c1, hown, ⟨hbn, by omega⟩, fun k k1 k2 => ?_⟩ (fun g hg => ?_)
        · rw [turn_same]
          by_cases hk : k ≤ gen
          · obtain ⟨zs, z1, z2⟩ := hall k k1 hk
            refine ⟨zs, ?_, by rw [if_pos hk]; exact q5 _ k zs hk z2⟩
            rw [List.take_append_of_le_length (by rw [hm]; exact Nat.mul_le_mul_right _ hk)]
            exact z1.later hlater
          · have hc := own_cut q2 k2 (by omega)
            refine ⟨_, ?_, by rw [if_neg hk]; exact hc.1⟩
            exact Cels.later ((h3.append g3).take _) hlater
        · obtain ⟨k, k1, k2, k3⟩ := hg
          rw [turn_same] at k3
          by_cases hk : k ≤ gen
          · rw [if_pos hk] at k3
            exact .inr ⟨k, k1, hk, k3⟩
          · rw [if_neg hk, (own_cut q2 k2 (by omega)).2] at k3
            rcases q4 with q4 | q4
            · rw [q4] at k3
              exact .inr ⟨gen, hlo, Nat.le_refl _, by rw [← hfull]; exact k3⟩
            · rw [q4] at k3
              injection k3 with k3
              exact .inl (by omega)
  · -- onto an array's slice
    rename_i id off len cap
    have hq := (bif_some h).1
    replace h := (bif_some h).2
    simp only [Bool.and_eq_true] at hq
    obtain ⟨⟨⟨p1, p2⟩, p3⟩, p4⟩ := hq
    have p1 := beq_nat p1
    have p2 := ble_nat p2
    have p3 := ble_nat p3
    have p4 := ble_nat p4
    subst p1
    split at h
    rotate_left
    · cases h
    rename_i old hold
    cases h
    obtain ⟨g, A2, rfl, hlc, ha⟩ := hs
    obtain ⟨ad2, e2, rfl⟩ := ha (by omega)
    obtain ⟨ad', ovs, h1, h2, h3, h4⟩ := rdAt_rel hold hH (v := .pointer (some (ad2.add off))) ⟨g, ad2, e2, rfl⟩
    injection h1 with h1; injection h1 with h1
    subst h1
    rcases hlie with rfl | ⟨hm0, ad, vs, rfl, g3, g4⟩
    · omega
    have hvl : vs.length = m * i.size := by rw [i2]; exact g3.1.symm.trans hnl
    have hol : ovs.length = len * i.size := by rw [i2]; exact h3.1.symm.trans h2
    have hbn := lim _ p4
    have hr := run_append_grow (P := P) w t ty e i z hu i1 i4 (ad2.add off) len len ovs hol h4 ad m c vs hvl g4 (by omega) (by omega) (growslice_fits (by omega) (by rw [i3]; exact p4))
    have hge := grownCap_ge w (len + m) len e
    have hcm : grownCap w (len + m) len e ≤ maxLen := grownCap_le_maxLen w (len + m) len e (by simp only [maxLen]; omega)
    have hown : (w.drew.alloc (.cells (ovs.toArray ++ vs.toArray ++ Builtin.zeroCells z.cells (grownCap w (len + m) len e - (len + m))) e)).ownsRow 0 e ei.size (.slice (some ⟨w.heap.size, 0, none⟩) (len + m) (grownCap w (len + m) len e)) (len + m) (ovs ++ vs) := by
      have hlen : (ovs ++ vs).length = (len + m) * ei.size := by rw [List.length_append, hol, hvl, ← Nat.add_mul, i2]
      refine ⟨hlen, .inr ⟨w.heap.size, _, _, rfl, Nat.zero_le _, heap_alloc_new w.drew _, hge, hcm, ?_, ?_⟩⟩
      · simp only [Array.size_append, List.size_toArray, size_zeroCells, hzs, hol, hvl, i2, ← Nat.add_mul]
        congr 1
        omega
      · simp only [Array.toList_append, List.append_assoc]
        rw [← List.append_assoc, ← hlen]
        exact List.take_left
    rw [appL_eq old new]
    obtain ⟨ρ', k1, k2⟩ := alloc_row (w' := w.drew.alloc (.cells (ovs.toArray ++ vs.toArray ++ Builtin.zeroCells z.cells (grownCap w (len + m) len e - (len + m))) e)) (cs := old ++ new) hH ⟨rfl, rfl, rfl, by simp, fun k hk => heap_alloc_old w.drew _ hk⟩ c1 hbn (by rw [List.length_append, h2, hnl, Nat.add_mul]) (h3.append g3) hown (fun g hg => by simp [Value.ownBlock] at hg; omega)
    exact ⟨_, ρ', _, hr, k1, k2⟩
  · cases h
end
end Go.Proofs.Ytbfepedjnlcgkaa.Pe
