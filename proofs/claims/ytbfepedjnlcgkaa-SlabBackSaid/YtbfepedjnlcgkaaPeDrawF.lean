/- Regions that draw their order: one more operation, as it runs. -/
import Derived.Test.YtbfepedjnlcgkaaPeDrawE
set_option linter.unusedVariables false
namespace Go.Proofs.Ytbfepedjnlcgkaa.Pe
open Go.RowKit
section
variable {P : Program} {T : Tys} {call : CallF} {ops : List Oper} {H : Heap} {tm0 : List V} {n : Nat} {R : Nat → Rg} {ρ0 ρ ρ' : Ren} {w0 w w' : World} {a0 a : Act} {S S' : Nat → Bool}
theorem Ctx.tmlen (c : Ctx P T call ops H tm0 n R) : ∀ j, j ≤ n → (R j).tm.length = tm0.length
  | 0, _ => by rw [c.tm]
  | j + 1, hj => by
    obtain ⟨o, ho, hs⟩ := c.rstep (i := j) (by omega)
    have hput : ∃ v, putT (R j).tm o.dst v = some (R (j + 1)).tm := by
      by_cases hst : ∃ t pa px, o.op = .store t pa px
      · obtain ⟨t, pa, px, hst⟩ := hst
        obtain ⟨x, off, m, n, cs, ys, cs', v, k, L⟩ := stepR_store hst hs
        exact ⟨_, L.tm'⟩
      · obtain ⟨v, H', _, h1, _⟩ := stepR_other (fun t pa px e => hst ⟨t, pa, px, e⟩) hs
        exact ⟨v, h1⟩
    obtain ⟨v, hput⟩ := hput
    rw [putT_len hput]
    exact c.tmlen j (by omega)
theorem Ctx.hop (c : Ctx P T call ops H tm0 n R) (I : Inv ops H tm0 n R ρ0 w0 a0 S ρ a w) {i : Nat} (hi : i < n) (hS : ∀ k, bit (clAt (clsOf ops []) i) k = true → S k = true) (hn : S i = false) {o : Oper} (ho : ops[i]? = some o) :
    Hop ρ (viewAt H (clsOf ops []) i (R i)) (R i).tm a o.op.operands.toList := by
  intro x hx v hv
  cases x with
  | tmp t =>
    have hv' : (R i).tm[t]? = some v := by rw [← getL_eq]; exact hv
    have ht : t ∈ reads ops o := by
      unfold reads
      exact List.mem_append_left _ (List.mem_filterMap.2 ⟨.tmp t, hx, rfl⟩)
    exact (c.read I hi hS hn ho ht hv').1
  | const u => exact opnd_rel (a := { a with tmps := #[] }) (tm := []) ⟨rfl, fun t x h => by simp at h⟩ (x := .const u) hv
  | _ => cases hv
theorem Ctx.wanted (c : Ctx P T call ops H tm0 n R) (I : Inv ops H tm0 n R ρ0 w0 a0 S ρ a w) {i : Nat} (hi : i < n) (hS : ∀ k, bit (clAt (clsOf ops []) i) k = true → S k = true) (hn : S i = false) {o : Oper} (ho : ops[i]? = some o) {b : Bool} (h : wantedE ops o (R i).tm = some b) :
    Region.wanted o (yielded ops.toArray a.tmps) = b := by
  refine wanted_rel' (ρ := ρ) (H := viewAt H (clsOf ops []) i (R i)) (fun j want d x hg hd hx => ?_) h
  have ht : d ∈ reads ops o := by
    unfold reads
    refine List.mem_append_right _ ?_
    rw [hg]
    simp [hd]
  obtain ⟨h1, h2⟩ := c.read I hi hS hn ho ht hx
  exact ⟨a.tmps[d], by simp [h2], by simpa [h2] using h1⟩
/-- Not a store: new blocks, and those that were there stay. -/
theorem Ctx.other (c : Ctx P T call ops H tm0 n R) (I : Inv ops H tm0 n R ρ0 w0 a0 S ρ a w) {i : Nat} (hi : i < n) (hS : ∀ k, bit (clAt (clsOf ops []) i) k = true → S k = true) (hn : S i = false) (hS' : ∀ j, S' j = true ↔ j = i ∨ S j = true) {o : Oper} (ho : ops[i]? = some o) (hno : ∀ t pa px, o.op ≠ .store t pa px)
    {v : V} {cv : Value} {H' : Heap} (hput : putT (R i).tm o.dst v = some (R (i + 1)).tm) (hN : (R (i + 1)).N = (R i).N ++ H'.drop (H.length + (R i).N.length)) (s : Step ρ (viewAt H (clsOf ops []) i (R i)) w ρ' H' w') (hv : VRel ρ' H' v cv) :
    ∃ ρ'', Inv ops H tm0 n R ρ0 w0 a0 S' ρ'' (a.put o.dst cv) w' := by
  have hvl := c.viewLen (i := i) (Nat.le_of_lt hi)
  have hfz : ∀ (id : Nat) (b : Bk), (viewAt H (clsOf ops []) i (R i))[id]? = some b → b.wr = false := fun id b hb => by
    unfold viewAt at hb
    rw [← show freeze (H ++ viewN (clAt (clsOf ops []) i) (R i).own (R i).upd (R i).N) = freeze H ++ freeze (viewN (clAt (clsOf ops []) i) (R i).own (R i).upd (R i).N) by simp [freeze], freeze_get] at hb
    obtain ⟨b0, _, rfl⟩ := map_some hb
    exact frz_wr b0
  have hext : ∀ (id : Nat) (b : Bk), (viewAt H (clsOf ops []) i (R i))[id]? = some b → H'[id]? = some b := fun id b hb => by
    obtain ⟨b', e1, _, e3⟩ := s.ext id b hb
    rw [e1, e3 (hfz id b hb)]
  have hl' : (viewAt H (clsOf ops []) i (R i)).length ≤ H'.length := by
    rcases Nat.lt_or_ge H'.length (viewAt H (clsOf ops []) i (R i)).length with hlt | hge
    · have := hext H'.length (viewAt H (clsOf ops []) i (R i))[H'.length] (by simp [hlt])
      simp at this
    · exact hge
  have hlen : H'.length = H.length + (R (i + 1)).N.length := by
    rw [hN, List.length_append, List.length_drop]
    omega
  have hsame : ∀ g, g < w.heap.size → w'.heap[g]? = w.heap[g]? := fun g hg => s.keep.block g hg fun id b hb hw _ => by
    rw [hfz id b hb] at hw
    cases hw
  have hB : Below w.heap.size w w' := ⟨s.keep.os, s.keep.tape, s.keep.output, s.keep.size, hsame⟩
  have hsz : w0.heap.size ≤ w.heap.size := I.below.size
  have hNi : (R i).N.length ≤ (R (i + 1)).N.length := by rw [hN, List.length_append]; omega
  let ρ'' : Ren := fun id => if H.length + (R i).N.length ≤ id ∧ id < H.length + (R (i + 1)).N.length then ρ' id else ρ id
  have r0 : ∀ id, id < H.length → ρ'' id = ρ id := fun id hid => if_neg (by omega)
  have r1 : ∀ x y, (R n).own[x]? = some y → y ≠ i → ρ'' (H.length + x) = ρ (H.length + x) := fun x y hx hy => if_neg (by
    have h1 := c.tab.owner (i := i) (Nat.le_of_lt hi) hx
    have h2 := c.tab.owner (i := i + 1) hi hx
    omega)
  have r2 : ∀ x, (R n).own[x]? = some i → ρ'' (H.length + x) = ρ' (H.length + x) ∧ (R i).N.length ≤ x ∧ x < (R (i + 1)).N.length := fun x hx => by
    have h1 := c.tab.owner (i := i) (Nat.le_of_lt hi) hx
    have h2 := c.tab.owner (i := i + 1) hi hx
    exact ⟨if_pos (by omega), by omega, by omega⟩
  have hH'N : ∀ x, (R i).N.length ≤ x → H'[H.length + x]? = (R (i + 1)).N[x]? := fun x hx => by
    rw [hN, List.getElem?_append_right hx, List.getElem?_drop]
    congr 1
    omega
  have f1 := c.tab.far' (i := i + 1) (j := n) hi (Nat.le_refl n)
  have hlt : Later ρ' H' ρ'' (Hst H (R n) (Ak ops i)) := by
    have hcase : ∀ id k, Gb H' id k → (id < H.length + (R i).N.length ∧ Gb (viewAt H (clsOf ops []) i (R i)) id k) ∨ (∃ x b, id = H.length + x ∧ (R i).N.length ≤ x ∧ x < (R (i + 1)).N.length ∧ (R (i + 1)).N[x]? = some b ∧ k < b.gb) := fun id k ⟨b, hb, hk⟩ => by
      by_cases hid : id < H.length + (R i).N.length
      · refine .inl ⟨hid, (viewAt H (clsOf ops []) i (R i))[id]'(by omega), by simp [hvl, hid], ?_⟩
        have := hext id ((viewAt H (clsOf ops []) i (R i))[id]'(by omega)) (by simp [hvl, hid])
        rw [hb] at this
        have := Option.some.inj this
        rw [← this]
        exact hk
      · have := (List.getElem?_eq_some_iff.1 hb).1
        refine .inr ⟨id - H.length, b, by omega, by omega, by omega, ?_, hk⟩
        rw [← hH'N _ (by omega), show H.length + (id - H.length) = id by omega]
        exact hb
    refine ⟨fun id k hg => ?_, fun id k hg => ?_⟩
    · rcases hcase id k hg with ⟨h1, h2⟩ | ⟨x, b, rfl, h1, h2, _⟩
      · rw [s.agree id k h2]
        exact congrFun (if_neg (by omega)) k
      · exact congrFun (if_pos (by omega)) k
    · rcases hcase id k hg with ⟨h1, h2⟩ | ⟨x, b, rfl, h1, h2, h3, h4⟩
      · exact (later_Hst (ρ := ρ) (fun y hy => by simp only [Ak, Ck, Bool.or_eq_true] at *; exact .inr hy)).gb id k ((c.gbView hi).1 h2)
      · obtain ⟨b', q1, q2⟩ := f1.gb x b h3
        have hown : (R n).own[x]? = some i := by
          have hx : x < (R n).own.length := by rw [(c.lens (Nat.le_refl n)).1]; exact (List.getElem?_eq_some_iff.1 q1).1
          have hy : (R n).own[x]? = some (R n).own[x] := by simp [hx]
          have o1 := c.tab.owner (i := i) (Nat.le_of_lt hi) hy
          have o2 := c.tab.owner (i := i + 1) hi hy
          rw [hy]
          congr 1
          omega
        exact Gb_Hst.2 (.inr ⟨x, i, b', rfl, hown, q1, by simp [Ak], by omega⟩)
  -- entries of others
  have old : ∀ (x y : Nat) b, (R n).own[x]? = some y → y ≠ i → S' y = true → blkS R n S' x = some b → S y = true ∧ blkS R n S x = some b ∧ wfS ops R n S' x y = wfS ops R n S x y := fun x y b hx hy hs hb => by
    have hsy : S y = true := ((hS' y).1 hs).resolve_left hy
    obtain ⟨_, _, _, _, _, h | ⟨u, ou, t, pa, px, off, m, k, cs, ys, cs', v, u1, u2, u3, L, u4, u5, u6⟩⟩ := c.life hx
    · rw [(wfS_none (ops := ops) (y := y) (S := S') h.1).2] at hb
      exact ⟨hsy, (wfS_none (ops := ops) (y := y) (S := S) h.1).2.trans hb, ((wfS_none (ops := ops) (y := y) (S := S') h.1).1).trans ((wfS_none (S := S) h.1).1).symm⟩
    · have hui : u ≠ i := fun e => by
        subst e
        rw [ho] at u3
        cases u3
        exact hno _ _ _ L.op
      have hSu : S' u = S u := by
        have := hS' u
        cases h1 : S u with
        | true => exact this.2 (.inr h1)
        | false =>
          cases h2 : S' u with
          | false => rfl
          | true =>
            rcases this.1 h2 with h3 | h3
            · exact absurd h3 hui
            · rw [h1] at h3; cases h3
      have e1 := wfS_some (ops := ops) (y := y) (S := S') u4
      have e2 := wfS_some (ops := ops) (y := y) (S := S) u4
      rw [hSu] at e1
      exact ⟨hsy, e2.2.trans (e1.2.symm.trans hb), e1.1.trans e2.1.symm⟩
  -- entries of this
  have new : ∀ (x : Nat) b, (R n).own[x]? = some i → blkS R n S' x = some b → H'[H.length + x]? = some b ∧ wfS ops R n S' x i = Ak ops i := fun x b hx hb => by
    obtain ⟨_, q2, q3, _, _, h | ⟨u, ou, t, pa, px, off, m, k, cs, ys, cs', v, u1, u2, u3, L, u4, u5, u6⟩⟩ := c.life hx
    · rw [(wfS_none (ops := ops) (y := i) (S := S') h.1).2] at hb
      exact ⟨by rw [hH'N x q2, ← h.2]; exact hb, (wfS_none (S := S') h.1).1⟩
    · have hSu : S' u = false := by
        cases h2 : S' u with
        | false => rfl
        | true =>
          rcases (hS' u).1 h2 with h3 | h3
          · omega
          · have := I.closed u h3 i L.sees
            rw [hn] at this; cases this
      have e1 := wfS_some (ops := ops) (y := i) (S := S') u4
      rw [hSu] at e1
      simp only [Bool.false_eq_true, if_false] at e1
      exact ⟨by rw [hH'N x q2, ← u5, ← e1.2]; exact hb, e1.1⟩
  have newOcc : ∀ (x : Nat) b g, (R n).own[x]? = some i → H'[H.length + x]? = some b → Occ ρ'' (H.length + x) b g → w.heap.size ≤ g := fun x b g hx hb ho => by
    obtain ⟨e1, e2, _⟩ := r2 x hx
    rcases s.occ (H.length + x) b g hb ((Occ_congr fun k => by rw [e1]).1 ho) with h | ⟨b0, h, _⟩
    · exact h
    · have := (List.getElem?_eq_some_iff.1 h).1
      omega
  have oldOcc : ∀ (x y : Nat) b g, (R n).own[x]? = some y → y ≠ i → S y = true → blkS R n S x = some b → Occ ρ'' (H.length + x) b g → Occ ρ (H.length + x) b g ∧ g < w.heap.size := fun x y b g hx hy hs hb ho => by
    have ho := (Occ_congr fun k => by rw [r1 x y hx hy]).1 ho
    exact ⟨ho, Occ.lt (I.ent x y b hx hs hb).1 ho⟩
  refine ⟨ρ'', c.next I hi hS hn hS' ho hput (hv.later hlt) r0 r1 (hB.mono hsz) ((c.tmlen i (Nat.le_of_lt hi)).trans I.len) (fun x y b hx hy hb => ?_) (fun x x' y y' b b' g hne hx hx' hy hy' hb hb' hw o1 o2 => ?_)⟩
  · by_cases e : y = i
    · subst e
      obtain ⟨n1, n2⟩ := new x b hx hb
      refine ⟨?_, fun g hg => Nat.le_trans hsz (newOcc x b g hx n1 hg)⟩
      rw [n2]
      exact (s.rel.blk _ b n1).move (fun k => by rw [(r2 x hx).1]) hlt
    · obtain ⟨n1, n2, n3⟩ := old x y b hx e hy hb
      obtain ⟨i1, i2⟩ := I.ent x y b hx n1 n2
      rw [n3]
      refine ⟨(i1.keep s.keep.size fun g hg _ => hsame g hg).move (fun k => by rw [r1 x y hx e]) (later_S (S := S) (fun y' hy' => I.wf n1 hy') hn r0 r1), fun g hg => i2 g (oldOcc x y b g hx e n1 n2 hg).1⟩
  · by_cases e : y = i
    · subst e
      obtain ⟨n1, n2⟩ := new x b hx hb
      by_cases e' : y' = y
      · subst e'
        obtain ⟨m1, m2⟩ := new x' b' hx' hb'
        exact s.rel.dis _ _ b b' g (by omega) n1 m1 hw ((Occ_congr fun k => by rw [(r2 x hx).1]).1 o1) ((Occ_congr fun k => by rw [(r2 x' hx').1]).1 o2)
      · obtain ⟨m1, m2, m3⟩ := old x' y' b' hx' e' hy' hb'
        have := newOcc x b g hx n1 o1
        have := (oldOcc x' y' b' g hx' e' m1 m2 o2).2
        omega
    · obtain ⟨n1, n2, n3⟩ := old x y b hx e hy hb
      by_cases e' : y' = i
      · subst e'
        obtain ⟨m1, m2⟩ := new x' b' hx' hb'
        have := newOcc x' b' g hx' m1 o2
        have := (oldOcc x y b g hx e n1 n2 o1).2
        omega
      · obtain ⟨m1, m2, m3⟩ := old x' y' b' hx' e' hy' hb'
        exact I.dis x x' y y' b b' g hne hx hx' n1 m1 n2 m2 hw (oldOcc x y b g hx e n1 n2 o1).1 (oldOcc x' y' b' g hx' e' m1 m2 o2).1
/-- A store into a block of the region. -/
theorem Ctx.store (c : Ctx P T call ops H tm0 n R) (I : Inv ops H tm0 n R ρ0 w0 a0 S ρ a w) {i : Nat} (hi : i < n) (hS : ∀ k, bit (clAt (clsOf ops []) i) k = true → S k = true) (hn : S i = false) (hS' : ∀ j, S' j = true ↔ j = i ∨ S j = true) {o : Oper} (ho : ops[i]? = some o)
    {x off m kn : Nat} {t : TypeId} {pa px : Operand} {cs ys cs' : List C} {v : V} {y : Nat} (L : Loc T ops H (clsOf ops []) i o (R i) (R (i + 1)) x t pa px off m kn cs ys cs' v y) :
    ∃ w', (Instr.storeAt t (a.eval pa) (a.eval px)).run P w = .ok () w' ∧ Inv ops H tm0 n R ρ0 w0 a0 S' ρ (a.put o.dst undef) w' := by
  have hvl := c.viewLen (i := i) (Nat.le_of_lt hi)
  have hxl : x < (R i).N.length := (List.getElem?_eq_some_iff.1 L.blk).1
  have f0 := c.tab.far' (i := i) (j := n) (Nat.le_of_lt hi) (Nat.le_refl n)
  have hown : (R n).own[x]? = some y := (f0.own x hxl).trans L.own
  obtain ⟨hown', hsy, hblk, hwf⟩ := c.sees I hi hS hn L.own L.upd L.blk L.sees (fun j hj => by cases hj)
  let Hw : Heap := (viewAt H (clsOf ops []) i (R i)).set (H.length + x) (.var true m cs)
  have gne : ∀ id, id ≠ H.length + x → Hw[id]? = (viewAt H (clsOf ops []) i (R i))[id]? := fun id hid => List.getElem?_set_ne (fun e => hid e.symm)
  have geq : Hw[H.length + x]? = some (.var true m cs) := by
    show ((viewAt H (clsOf ops []) i (R i)).set (H.length + x) (.var true m cs))[H.length + x]? = _
    rw [List.getElem?_set_self (by omega)]
  have hwl : Hw.length = H.length + (R i).N.length := by
    show ((viewAt H (clsOf ops []) i (R i)).set (H.length + x) (.var true m cs)).length = _
    rw [List.length_set, hvl]
  obtain ⟨hH, hgb⟩ := c.view I hi hS hn (Hv := Hw) hwl (fun id hid => by rw [gne id (by omega), c.viewOld hid]) (fun x' b' hx' hb' => by
    by_cases e : x' = x
    · subst e
      rw [geq] at hb'
      cases hb'
      exact .inr ⟨_, y, L.own, L.upd, L.blk, L.sees, rfl⟩
    · rw [gne _ (by omega)] at hb'
      exact .inl hb')
  have hvw : ∀ id k, Gb Hw id k → Gb (viewAt H (clsOf ops []) i (R i)) id k := by
    rintro id k ⟨b, hb, hk⟩
    by_cases e : id = H.length + x
    · subst e
      rw [geq] at hb
      cases hb
      obtain ⟨y', u, b1, g1, g2, g3, g4⟩ := c.viewNew (Nat.le_of_lt hi) hxl
      rw [L.own] at g1; cases g1
      rw [L.upd] at g2; cases g2
      rw [L.blk] at g3; cases g3
      refine ⟨_, g4, ?_⟩
      rw [frz_gb]
      simpa [L.sees] using hk
    · rw [gne id e] at hb
      exact ⟨b, hb, hk⟩
  have hop := c.hop I hi hS hn ho
  have hl : Later ρ (viewAt H (clsOf ops []) i (R i)) ρ Hw := ⟨fun _ _ _ => rfl, hgb⟩
  have v1 := (hop pa (by simp [L.op, Op.operands]) _ L.pa).later hl
  have v2 := (hop px (by simp [L.op, Op.operands]) _ L.px).later hl
  have hst : vstore T Hw t (.c (.p (H.length + x) off)) v = some (Hw.set (H.length + x) (.var true m cs')) := by
    obtain ⟨ti, t1, t2⟩ := L.ty
    unfold vstore
    simp only [L.cells, t1, t2, Nat.beq_refl, cond_true, wrAt, getL_eq, geq]
    have := L.spl
    rw [t2] at this
    rw [this]
    exact setL_of _ _ _ (by omega)
  obtain ⟨w', hrun, s⟩ := vstore_rel (P := P) c.hT hst hH v1 v2
  refine ⟨w', hrun, ?_⟩
  have hwr : ∀ (id : Nat) (b : Bk), Hw[id]? = some b → b.wr = true → id = H.length + x := fun id b hb hw => by
    by_cases e : id = H.length + x
    · exact e
    · exfalso
      rw [gne id e] at hb
      unfold viewAt at hb
      rw [← show freeze (H ++ viewN (clAt (clsOf ops []) i) (R i).own (R i).upd (R i).N) = freeze H ++ freeze (viewN (clAt (clsOf ops []) i) (R i).own (R i).upd (R i).N) by simp [freeze], freeze_get] at hb
      obtain ⟨b0, _, rfl⟩ := map_some hb
      rw [frz_wr] at hw
      cases hw
  have hsame : ∀ g, g < w.heap.size → ¬ Occ ρ (H.length + x) (.var true m cs) g → w'.heap[g]? = w.heap[g]? := fun g hg hno => s.keep.block g hg fun id b hb hw ho => by
    have := hwr id b hb hw
    subst this
    rw [geq] at hb
    cases hb
    exact hno ho
  have hxb := I.ent x y _ hown' hsy hblk
  have hB : Below w0.heap.size w w' := ⟨s.keep.os, s.keep.tape, s.keep.output, s.keep.size, fun g hg => hsame g (Nat.lt_of_lt_of_le hg I.below.size) fun ho => by
    have := hxb.2 g ho
    omega⟩
  have f1 := c.tab.far' (i := i + 1) (j := n) hi (Nat.le_refl n)
  have hNl : (R (i + 1)).N.length = (R i).N.length := by rw [L.N', List.length_set]
  have hN1 : (R (i + 1)).N[x]? = some (.var true m cs') := by rw [L.N', List.getElem?_set_self hxl]
  have hu1 : (R (i + 1)).upd[x]? = some (some i) := by
    rw [L.upd', List.getElem?_set_self]
    rw [(c.lens (Nat.le_of_lt hi)).2]
    exact hxl
  have hun : (R n).upd[x]? = some (some i) ∧ (R n).N[x]? = some (.var true m cs') := by
    rcases f1.upd x (by omega) with ⟨u1, u2⟩ | ⟨u1, _⟩
    · exact ⟨u1.trans hu1, u2.trans hN1⟩
    · rw [hu1] at u1; cases u1
  have hSi : S' i = true := (hS' i).2 (.inl rfl)
  have this_ : ∀ y' b, (R n).own[x]? = some y' → blkS R n S' x = some b → b = .var true m cs' ∧ wfS ops R n S' x y' = Ak ops i := fun y' b hx hb => by
    have e1 := wfS_some (ops := ops) (y := y') (S := S') hun.1
    rw [hSi] at e1
    simp only [if_true] at e1
    rw [e1.2, hun.2] at hb
    cases hb
    exact ⟨rfl, e1.1⟩
  have noti : ∀ x' y', (R n).own[x']? = some y' → S' y' = true → S y' = true := fun x' y' hx hs => by
    refine ((hS' y').1 hs).resolve_left fun e => ?_
    subst e
    obtain ⟨_, q2, q3, _⟩ := c.life hx
    omega
  have old : ∀ (x' y' : Nat) b, (R n).own[x']? = some y' → x' ≠ x → S' y' = true → blkS R n S' x' = some b → S y' = true ∧ blkS R n S x' = some b ∧ wfS ops R n S' x' y' = wfS ops R n S x' y' := fun x' y' b hx hne hs hb => by
    have hsy := noti x' y' hx hs
    obtain ⟨_, _, _, _, _, h | ⟨u, ou, t, pa, px, off, m, k, cs, ys, cs', v, u1, u2, u3, L', u4, u5, u6⟩⟩ := c.life hx
    · rw [(wfS_none (ops := ops) (y := y') (S := S') h.1).2] at hb
      exact ⟨hsy, (wfS_none (ops := ops) (y := y') (S := S) h.1).2.trans hb, ((wfS_none (ops := ops) (y := y') (S := S') h.1).1).trans ((wfS_none (S := S) h.1).1).symm⟩
    · have hui : u ≠ i := fun e => by
        subst e
        have h1 := L'.upd'
        rw [L.upd'] at h1
        have h2 := congrArg (fun l => l[x]?) h1
        have hxu : x < (R u).upd.length := by rw [(c.lens (Nat.le_of_lt hi)).2]; exact hxl
        simp only [List.getElem?_set_self hxu, List.getElem?_set_ne hne, L.upd] at h2
        cases h2
      have hSu : S' u = S u := by
        have := hS' u
        cases h1 : S u with
        | true => exact this.2 (.inr h1)
        | false =>
          cases h2 : S' u with
          | false => rfl
          | true =>
            rcases this.1 h2 with h3 | h3
            · exact absurd h3 hui
            · rw [h1] at h3; cases h3
      have e1 := wfS_some (ops := ops) (y := y') (S := S') u4
      have e2 := wfS_some (ops := ops) (y := y') (S := S) u4
      rw [hSu] at e1
      exact ⟨hsy, e2.2.trans (e1.2.symm.trans hb), e1.1.trans e2.1.symm⟩
  have hlast : Later ρ (Hw.set (H.length + x) (.var true m cs')) ρ (Hst H (R n) (Ak ops i)) := ⟨fun _ _ _ => rfl, fun id k ⟨b, hb, hk⟩ => by
    have : Gb Hw id k := by
      by_cases e : id = H.length + x
      · subst e
        rw [List.getElem?_set_self (by omega)] at hb
        cases hb
        exact ⟨_, geq, hk⟩
      · rw [List.getElem?_set_ne (fun e' => e e'.symm)] at hb
        exact ⟨b, hb, hk⟩
    exact (later_Hst (ρ := ρ) (fun y hy => by simp only [Ak, Ck, Bool.or_eq_true] at *; exact .inr hy)).gb id k ((c.gbView hi).1 (hvw id k this))⟩
  refine c.next I hi hS hn hS' ho L.tm' rfl (fun _ _ => rfl) (fun _ _ _ _ => rfl) hB ((c.tmlen i (Nat.le_of_lt hi)).trans I.len) (fun x' y' b hx hy hb => ?_) (fun x1 x2 y1 y2 b1 b2 g hne hx1 hx2 hy1 hy2 hb1 hb2 hw o1 o2 => ?_)
  · by_cases e : x' = x
    · subst e
      obtain ⟨rfl, e2⟩ := this_ y' b hx hb
      rw [e2]
      exact ⟨(s.rel.blk _ _ (List.getElem?_set_self (by omega))).move (fun _ => rfl) hlast, fun g hg => hxb.2 g hg⟩
    · obtain ⟨n1, n2, n3⟩ := old x' y' b hx e hy hb
      obtain ⟨i1, i2⟩ := I.ent x' y' b hx n1 n2
      rw [n3]
      exact ⟨i1.keep s.keep.size fun g hg ho => hsame g hg fun ho' => I.dis x x' y y' _ b g (fun e' => e e'.symm) hown' hx hsy n1 hblk n2 rfl ho' ho, i2⟩
  · by_cases e1 : x1 = x
    · subst e1
      obtain ⟨rfl, _⟩ := this_ y1 b1 hx1 hb1
      obtain ⟨m1, m2, _⟩ := old x2 y2 b2 hx2 (fun e => hne e.symm) hy2 hb2
      exact I.dis x1 x2 y y2 _ b2 g hne hown' hx2 hsy m1 hblk m2 rfl o1 o2
    · obtain ⟨n1, n2, _⟩ := old x1 y1 b1 hx1 e1 hy1 hb1
      by_cases e2 : x2 = x
      · subst e2
        obtain ⟨rfl, _⟩ := this_ y2 b2 hx2 hb2
        exact I.dis x1 x2 y1 y b1 _ g hne hx1 hown' n1 hsy n2 hblk hw o1 o2
      · obtain ⟨m1, m2, _⟩ := old x2 y2 b2 hx2 e2 hy2 hb2
        exact I.dis x1 x2 y1 y2 b1 b2 g hne hx1 hx2 n1 m1 n2 m2 hw o1 o2
end
end Go.Proofs.Ytbfepedjnlcgkaa.Pe
