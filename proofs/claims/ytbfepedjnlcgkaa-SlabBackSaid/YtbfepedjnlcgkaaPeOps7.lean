/- A plain reading of the model's code: copies and conversions. -/
import Derived.Test.YtbfepedjnlcgkaaPeOps6
import Derived.Laws.IdiomStrings
import Derived.Laws.BytesArg
set_option linter.unusedVariables false
namespace Go.Proofs.Ytbfepedjnlcgkaa.Pe
open Go.RowKit
open Go.Proofs.Ytbfepedjnlcgkaa.B (lt_of_blk add_at)
section
variable {P : Program} {T : Tys} {t : TypeId} {ti : TI} {ρ : Ren} {H : Heap} {w w' : World} {a : Act}
theorem Lies.take {ad : Addr} {vs : List Value} (h : Lies w ad vs) (n : Nat) : Lies w ad (vs.take n) := by
  have := h.sub 0 n
  rwa [add_zero, List.drop_zero] at this
theorem vcopy_rel {t2 ty : TypeId} {d x : V} {u v : Value} {r : V × Heap} (hT : TabOk P T) (hH : HRel ρ H w) (h : vcopy T H t d x = some r) (hd : VRel ρ H d u) (hx : VRel ρ H x v) :
    ∃ cv ρ' w', (Builtin.copy_ #[t, t2] ty #[u, v]).run P w = .ok cv w' ∧ VRel ρ' r.2 r.1 cv ∧ Step ρ H w ρ' r.2 w' := by
  unfold vcopy at h
  split at h
  rotate_left
  · cases h
  rename_i e s1 s2 s3 s4 d x hti
  have hu := (hT _ _ hti).kd
  simp only [kdOk] at hu
  split at h
  rotate_left
  · cases h
  rename_i ei hei
  split at h
  rotate_left
  · cases h
  rename_i m new hr
  have hc := ble_nat (bif_some h).1
  replace h := (bif_some h).2
  obtain ⟨A, c, rfl, hmc, hnl, hlie⟩ := rdSl_rel hr hH hx
  split at h
  rotate_left
  · cases h
  rename_i pl len hpl
  -- where it goes
  have hd' : ∃ B c2, u = .slice B len c2 ∧ (0 < len → ∃ ad, B = some ad ∧ CRel ρ H pl (.pointer (some ad))) := by
    split at hpl
    · simp only [Option.some.injEq, Prod.mk.injEq] at hpl
      obtain ⟨rfl, rfl⟩ := hpl
      obtain ⟨g, B, rfl, hlc, ha⟩ := hd
      refine ⟨B, _, rfl, fun h0 => ?_⟩
      obtain ⟨ad, e1, rfl⟩ := ha (by omega)
      exact ⟨_, rfl, g, ad, e1, rfl⟩
    · simp only [Option.some.injEq, Prod.mk.injEq] at hpl
      obtain ⟨rfl, rfl⟩ := hpl
      obtain ⟨g, B, rfl, hlc, ha⟩ := hd
      refine ⟨B, _, rfl, fun h0 => ?_⟩
      obtain ⟨ad, n, c', e1, rfl⟩ := ha (by omega)
      exact ⟨_, rfl, g, ad, n, c', e1, rfl⟩
    · simp only [Option.some.injEq, Prod.mk.injEq] at hpl
      obtain ⟨rfl, rfl⟩ := hpl
      obtain ⟨g, hlg, B, c2, rfl, hlc, hf, ha⟩ := hd
      refine ⟨B, c2, rfl, fun h0 => ?_⟩
      obtain ⟨ad, n, c', e1, rfl⟩ := ha (by omega)
      exact ⟨_, rfl, g, ad, n, c', e1, rfl⟩
    · cases hpl
  obtain ⟨B, c2, rfl, hB⟩ := hd'
  cases hz : Nat.beq (Nat.min m len) 0 with
  | true =>
    simp only [hz, cond_true, Option.some.injEq] at h
    cases h
    have hz := beq_nat hz
    refine ⟨.int .i64 0, ρ, w, ?_, rfl, Step.refl hH⟩
    cases A <;> cases B <;> simp [Builtin.copy_, run_underlying hu, Builtin.lenOf, Builtin.firstCells, (hT _ _ hei).size, hz, loadCells, loadCellsFrom, storeCells, goInt]
  | false =>
    simp only [hz, cond_false] at h
    have hz' : Nat.min m len ≠ 0 := fun e => by rw [e] at hz; simp at hz
    have hm : 0 < m ∧ 0 < len := by
      have h1 := Nat.min_le_left m len
      have h2 := Nat.min_le_right m len
      have : 0 < Nat.min m len := by omega
      exact ⟨Nat.lt_of_lt_of_le this h1, Nat.lt_of_lt_of_le this h2⟩
    obtain ⟨ad, rfl, hpv⟩ := hB hm.2
    rcases hlie with rfl | ⟨_, ad2, vs, rfl, h3, h4⟩
    · omega
    split at h
    rotate_left
    · cases h
    rename_i ys hys
    obtain ⟨y1, y2⟩ := takeL_some _ _ _ hys
    split at h
    rotate_left
    · cases h
    rename_i H' hw
    cases h
    have hyl : ys.length = Nat.min m len * ei.size := by rw [y1, List.length_take]; omega
    have hyr : Cels ρ H ys (vs.take (Nat.min m len * ei.size)) := by rw [y1]; exact h3.take _
    obtain ⟨ad', w', h5, h6, h7⟩ := wrAt_rel (P := P) hw hH hpv hyr hyl
    injection h5 with h5; injection h5 with h5
    subst h5
    have hvl : (vs.take (Nat.min m len * ei.size)).length = Nat.min m len * ei.size := hyr.1.symm.trans hyl
    refine ⟨goInt (Nat.min m len : Nat), ρ, w', ?_, rfl, h7⟩
    simp [Builtin.copy_, run_underlying hu, Builtin.lenOf, Builtin.firstCells, (hT _ _ hei).size, run_cells (h4.take _) hvl, h6]
theorem allU8_cons (c : C) (cs : List C) : allU8 (c :: cs) = (match c with
      | .i .u8 n => match allU8 cs with
        | some l => some (UInt8.ofNat n.toNat :: l)
        | none => none
      | _ => none) := rfl
theorem allU8_some : ∀ {cs : List C} {l : List UInt8} {vs : List Value}, allU8 cs = some l → Cels ρ H cs vs → ∃ xs : List Int, vs = xs.map (Value.int .u8) ∧ l = xs.map fun n => UInt8.ofNat n.toNat
  | [], l, vs, h, hc => by
    cases h
    obtain rfl : vs = [] := List.eq_nil_of_length_eq_zero hc.1.symm
    exact ⟨[], rfl, rfl⟩
  | c :: cs, l, [], h, hc => by have := hc.1; simp at this
  | c :: cs, l, v :: vs, h, hc => by
    rw [allU8_cons] at h
    split at h
    · rename_i n
      split at h
      · rename_i l' hl
        cases h
        obtain ⟨xs, e1, e2⟩ := allU8_some (vs := vs) hl ⟨by simpa using hc.1, fun i x y a b => hc.2 (i + 1) x y (by simpa using a) (by simpa using b)⟩
        have hv := (hc.2 0 _ _ rfl rfl).2
        simp only [CRel] at hv
        exact ⟨n :: xs, by rw [e1, hv]; rfl, by rw [e2]; rfl⟩
      · cases h
    · cases h
theorem bytesC_rel (l : List UInt8) : Cels ρ H (bytesC l) (l.map fun b => Value.int .u8 b.toNat) := by
  refine ⟨by simp [bytesC], fun i x y hx hy => ?_⟩
  simp only [bytesC, List.getElem?_map, Option.map_eq_some_iff] at hx hy
  obtain ⟨b, h1, rfl⟩ := hx
  obtain ⟨b', h2, rfl⟩ := hy
  rw [h1] at h2; cases h2
  exact ⟨by simp, rfl⟩
theorem vconvert_rel {src dst : TypeId} {x : V} {u : Value} {r : V × Heap} (hT : TabOk P T) (hH : HRel ρ H w) (h : vconvert T H src dst x = some r) (hx : VRel ρ H x u) :
    ∃ cv ρ' w', (convert src dst u).run P w = .ok cv w' ∧ VRel ρ' r.2 r.1 cv ∧ Step ρ H w ρ' r.2 w' := by
  unfold vconvert at h
  split at h
  · rename_i k1 s1 s2 s3 s4 k s5 s6 s7 s8 k2 n hs hd
    cases h
    have h1 := (hT _ _ hs).kd
    have h2 := (hT _ _ hd).kd
    simp only [kdOk] at h1 h2
    simp only [VRel, CRel] at hx
    subst hx
    exact ⟨.int k (k.wrap n), ρ, w, by simp [convert, run_underlying h1, run_underlying h2, Conv.intToInt], by simp [VRel, CRel, wrapQ_eq], Step.refl hH⟩
  · rename_i s1 s2 s3 s4 s5 s6 s7 s8 l hs hd
    cases h
    have h1 := (hT _ _ hs).kd
    have h2 := (hT _ _ hd).kd
    simp only [kdOk] at h1 h2
    simp only [VRel, CRel] at hx
    subst hx
    exact ⟨_, ρ, w, by simp [convert, run_underlying h1, run_underlying h2], rfl, Step.refl hH⟩
  · rename_i s1 s2 s3 s4 e s5 s6 s7 s8 l hs hd
    have h1 := (hT _ _ hs).kd
    have h2 := (hT _ _ hd).kd
    simp only [kdOk] at h1 h2
    simp only [VRel, CRel] at hx
    subst hx
    split at h
    rotate_left
    · cases h
    rename_i s9 s10 s11 s12 he
    have h3 := (hT _ _ he).kd
    simp only [kdOk] at h3
    have hc := ble_nat (bif_some h).1
    replace h := (bif_some h).2
    cases h
    rw [appL_eq]
    have hsz : (⟨l.toArray⟩ : ByteArray).size = l.length := by simp [ByteArray.size]
    have hge := grownCap_ge w l.length 0 e
    have hrun := run_bytes_of_string (P := P) w src dst e ⟨l.toArray⟩ h1 h2 h3
    rw [hsz] at hrun
    refine ⟨_, turn ρ H.length (fun _ => .slice (some ⟨w.heap.size, 0, none⟩) l.length (grownCap w l.length 0 e)), _, hrun, ⟨Gb_push _ _ (Nat.lt_succ_self _), Nat.le_refl _, _, _, rfl, hge, fun _ _ => by rw [turn_same], fun _ => ⟨_, _, _, turn_same _ _ _ _, by rw [add_zero]⟩⟩, step_push hH ⟨rfl, rfl, rfl, by simp, fun k hk => heap_alloc_old w.drew _ hk⟩ ?_ ?_⟩
    · refine ⟨by simp [bytesC], hc, _, _, turn_same _ _ _ _, hge, fun _ => ⟨⟨w.heap.size, 0, none⟩, _, rfl, (bytesC_rel l).later (push_later _ _), fun j u hu => ?_, by simp⟩⟩
      rw [add_at, Nat.zero_add]
      have hcell := World.cell?_alloc_mark w.drew (bytesRow ⟨l.toArray⟩ (grownCap w l.length 0 e)) e ((bytesRow ⟨l.toArray⟩ (grownCap w l.length 0 e)).size, (bytesRow ⟨l.toArray⟩ (grownCap w l.length 0 e)).size + 1) j
      refine Eq.trans hcell ?_
      have hj : j < l.length := by have := (List.getElem?_eq_some_iff.1 hu).1; simpa using this
      simp only [bytesRow]
      rw [Array.getElem?_append_left (by simpa using hj)]
      simpa using hu
    · rintro g ⟨_, hg⟩
      rw [turn_same] at hg
      simp [Value.ownBlock] at hg
      omega
  · rename_i e s1 s2 s3 s4 e' s5 s6 s7 s8 id off len gen hs hd
    have h1 := (hT _ _ hs).kd
    have h2 := (hT _ _ hd).kd
    simp only [kdOk] at h1 h2
    split at h
    rotate_left
    · cases h
    rename_i s9 s10 s11 s12 he
    have h3 := (hT _ _ he).kd
    simp only [kdOk] at h3
    have hq := (bif_some h).1
    replace h := (bif_some h).2
    simp only [Bool.and_eq_true] at hq
    obtain ⟨⟨⟨⟨p1, p2⟩, p3⟩, p4⟩, p5⟩ := hq
    have p1 := beq_nat p1
    have p2 := beq_nat p2
    have p3 := ble_nat p3
    have p4 := beq_nat p4
    have p5 := beq_nat p5
    subst p1; subst p2; subst p4; subst p5
    split at h
    rotate_left
    · cases h
    rename_i cs n lo sz ty hb
    rw [getL_eq] at hb
    have p6 := beq_nat (bif_some h).1
    replace h := (bif_some h).2
    subst p6
    split at h
    rotate_left
    · cases h
    rename_i H' hset
    cases h
    obtain ⟨hset, hlt⟩ := setL_some _ _ _ _ hset
    subst hset
    obtain ⟨hgb, _, A, c, rfl, hlc, hfull, hadr⟩ := hx
    have hfull := hfull rfl rfl
    obtain ⟨hsz, hm, ⟨hn, hlo⟩, hall⟩ := hH.blk _ _ hb
    obtain ⟨xs, h4, h5⟩ := hall gen hlo (Nat.le_refl _)
    rw [← hm, List.take_length] at h4
    have hown := h5
    rcases h5.2 with ⟨_, h0⟩ | ⟨g, cap, cur, e1, e2, e3, e4⟩
    · omega
    have e5 := hfull.trans e1
    injection e5 with e5 e6 e7
    subst e5; subst e7
    have hsh : w.shape? g = some (ty, cur.size) := by simp [World.shape?, e3]
    have hfz : (w.freeze ⟨g, cur.size, none⟩ 1).heap[g]? = some (.cells cur ty (cur.size, cur.size + 1)) := by
      simp [World.freeze, Array.getElem?_modify, e3]
    refine ⟨.slice (some ⟨g, 0, none⟩) gen c, ρ, w.freeze ⟨g, cur.size, none⟩ 1, ?_, ?_, ?_⟩
    · simp [convert, run_underlying h1, run_underlying h3, markStringish, hsh]
    · refine ⟨⟨.ror cs gen sz, by simp [hlt], Nat.lt_succ_self _⟩, Nat.le_refl _, _, _, rfl, hlc, fun _ _ => hfull, fun h => ?_⟩
      obtain ⟨ad, n2, c2, q1, q2⟩ := hadr h
      exact ⟨ad, n2, c2, q1, q2⟩
    · have hst := step_set (b1 := .ror cs gen sz) (rv := ρ id) (w' := w.freeze ⟨g, cur.size, none⟩ 1) hH hb rfl (Nat.le_refl _) (fun _ _ => rfl) (by simp [World.freeze]) (by simp [World.freeze]) (by simp [World.freeze]) (by simp [World.freeze]) (fun g' _ hn' => by
        have : g ≠ g' := fun e0 => hn' ⟨gen, hlo, Nat.le_refl _, by rw [e1, ← e0]; rfl⟩
        simp [World.freeze, Array.getElem?_modify, this]) ?_ ?_
      · rw [turn_self] at hst
        exact hst
      · rw [turn_self]
        have hlater : Later ρ H ρ (H.set id (.ror cs gen sz)) := ⟨fun _ _ _ => rfl, fun i k ⟨b, kb, kk⟩ => by
          by_cases ei : i = id
          · subst ei
            rw [hb] at kb; cases kb
            exact ⟨.ror cs gen sz, by simp [hlt], kk⟩
          · exact ⟨b, by rw [List.getElem?_set_ne (fun h => ei h.symm)]; exact kb, kk⟩⟩
        refine ⟨hm, hn, _, _, e1, by omega, fun _ => ⟨_, xs, rfl, h4.later hlater, fun j u hu => ?_, by have := lt_of_blk hfz; exact this⟩⟩
        have := World.ownsRow.cells hown (g := g) (by rw [e1]; rfl) j u hu
        rw [add_at, Nat.zero_add] at this ⊢
        rw [cell_of_row _ g j cur ty _ hfz]
        rw [cell_of_row _ g j cur ty _ e3] at this
        exact this
      · intro g' ho
        rw [turn_self] at ho
        obtain ⟨_, ho⟩ := ho
        exact .inr ⟨gen, hlo, Nat.le_refl _, ho⟩
  · rename_i e s1 s2 s3 s4 s5 s6 s7 s8 x hs hd
    have h1 := (hT _ _ hs).kd
    have h2 := (hT _ _ hd).kd
    simp only [kdOk] at h1 h2
    split at h
    rotate_left
    · cases h
    rename_i s9 s10 s11 s12 he
    have h3 := (hT _ _ he).kd
    simp only [kdOk] at h3
    split at h
    · cases h
    rename_i hns
    split at h
    rotate_left
    · cases h
    rename_i m cs hr
    split at h
    rotate_left
    · cases h
    rename_i l hl
    cases h
    obtain ⟨A, c, rfl, hmc, hnl, hlie⟩ := rdSl_rel hr hH hx
    rw [Nat.mul_one] at hnl
    refine ⟨.string ⟨l.toArray⟩, ρ, w, ?_, rfl, Step.refl hH⟩
    rcases hlie with rfl | ⟨_, ad, vs, rfl, h4, h5⟩
    · have hcs : cs = [] := List.eq_nil_of_length_eq_zero hnl
      subst hcs
      cases hl
      rw [run_convert_bytes_string w src dst e _ 0 c h1 h3 h2]
      cases A <;> simp [Conv.bytesToString, loadCells, loadCellsFrom]
      all_goals rfl
    · obtain ⟨xs, e1, e2⟩ := allU8_some hl h4
      have hvl : vs.length = m := h4.1.symm.trans hnl
      rw [run_convert_bytes_string w src dst e _ m c h1 h3 h2, run_bytesToString w ad m c xs (by rw [← e1]; exact run_cells h5 hvl), foldl_push_bytes]
      rw [e2]
      simp [ByteArray.empty, ByteArray.emptyWithCapacity]
      rfl
  · cases h
end
end Go.Proofs.Ytbfepedjnlcgkaa.Pe
