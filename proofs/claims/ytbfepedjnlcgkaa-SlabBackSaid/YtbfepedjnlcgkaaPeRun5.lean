/- A plain reading of the model's code: regions that draw their order. -/
import Derived.Test.YtbfepedjnlcgkaaPeDrawF
set_option linter.unusedVariables false
namespace Go.Proofs.Ytbfepedjnlcgkaa.Pe
open Go.RowKit
section
variable {P : Program} {T : Tys} {call : CallF} {ops : List Oper} {H : Heap} {tm0 : List V} {n : Nat} {R : Nat → Rg} {ρ0 ρ ρ' : Ren} {w0 w w' : World} {a0 a : Act} {S S' : Nat → Bool}
/-- One more operation. -/
theorem Ctx.op (c : Ctx P T call ops H tm0 n R) (I : Inv ops H tm0 n R ρ0 w0 a0 S ρ a w) {i : Nat} (hi : i < n) (hS : ∀ k, bit (clAt (clsOf ops []) i) k = true → S k = true) (hn : S i = false) (hS' : ∀ j, S' j = true ↔ j = i ∨ S j = true)
    {K : Act → World → Prop} {Q : Exit → Act → World → Prop} (k : ∀ ρ' a' w', Inv ops H tm0 n R ρ0 w0 a0 S' ρ' a' w' → K a' w') : wpOp P ops.toArray Q i K a w := by
  obtain ⟨o, ho, hs⟩ := c.rstep hi
  have hi' : ops.toArray[i]? = some o := by simpa using ho
  unfold wpOp
  simp only [hi']
  by_cases hst : ∃ t pa px, o.op = .store t pa px
  · obtain ⟨t, pa, px, hst⟩ := hst
    obtain ⟨x, off, m, n', cs, ys, cs', v, y, L⟩ := stepR_store hst hs
    rw [c.wanted I hi hS hn ho L.want]
    simp only [if_true]
    obtain ⟨w', h1, h2⟩ := c.store I hi hS hn hS' ho L
    refine .inl ?_
    unfold Oper.wp
    have hrun : (execOp a.eval o).run P w = .ok .skip w' := by simp [execOp, hst, h1]
    rw [hrun]
    exact k ρ _ w' h2
  · have hno : ∀ t pa px, o.op ≠ .store t pa px := fun t pa px e => hst ⟨t, pa, px, e⟩
    obtain ⟨v, H', h1, h2, h3, h4, h5⟩ := stepR_other hno hs
    have hH := (c.view I hi hS hn (Hv := viewAt H (clsOf ops []) i (R i)) (c.viewLen (Nat.le_of_lt hi)) (fun id hid => c.viewOld hid) (fun x b' hx hb => .inl hb)).1
    unfold evStep at h1
    split at h1
    · rename_i hw
      rw [c.wanted I hi hS hn ho hw]
      simp only [if_true]
      refine .inl (evOp_goes c.hT c.hcall h1 (c.hop I hi hS hn ho) hH K Q fun cv ρ' w' g1 g2 => ?_)
      obtain ⟨ρ'', J⟩ := c.other I hi hS hn hS' ho hno h2 h5 g2 g1
      exact k ρ'' _ w' J
    · rename_i hw
      rw [c.wanted I hi hS hn ho hw]
      cases h1
      obtain ⟨ρ'', J⟩ := c.other (cv := undef) I hi hS hn hS' ho hno h2 h5 (Step.refl hH) rfl
      exact k ρ'' _ w J
    · cases h1
/-- All of the heads have been carried out. -/
theorem Ctx.done (c : Ctx P T call ops H tm0 n R) (I : Inv ops H tm0 n R ρ0 w0 a0 S ρ a w) (hH0 : HRel ρ0 H w0) (hS : ∀ j, j < n → S j = true) :
    TRel ρ (H ++ (R n).N) (R n).tm a.tmps ∧ Step ρ0 H w0 ρ (H ++ (R n).N) w := by
  have hl : ∀ {A : Nat → Bool}, Later ρ (Hst H (R n) A) ρ (H ++ (R n).N) := ⟨fun _ _ _ => rfl, fun id k hg => by
    rw [Gb_Hst] at hg
    rcases hg with ⟨b, hb, hk⟩ | ⟨x, y, b, rfl, e1, e2, e3, hk⟩
    · exact ⟨b, by rw [List.getElem?_append_left (List.getElem?_eq_some_iff.1 hb).1]; exact hb, hk⟩
    · exact ⟨b, by rw [List.getElem?_append_right (by omega), Nat.add_sub_cancel_left]; exact e2, hk⟩⟩
  have hlH : Later ρ H ρ (H ++ (R n).N) := (later_H_Hst (r := R n) (A := fun _ => false)).trans hl
  have cas : ∀ (id : Nat) b, (H ++ (R n).N)[id]? = some b → (id < H.length ∧ H[id]? = some b) ∨ ∃ x y, id = H.length + x ∧ (R n).own[x]? = some y ∧ S y = true ∧ blkS R n S x = some b := fun id b hb => by
    by_cases hid : id < H.length
    · exact .inl ⟨hid, by rw [List.getElem?_append_left hid] at hb; exact hb⟩
    · rw [List.getElem?_append_right (by omega)] at hb
      have hx := (List.getElem?_eq_some_iff.1 hb).1
      have hxo : id - H.length < (R n).own.length := by rw [(c.lens (Nat.le_refl n)).1]; exact hx
      have hy : (R n).own[id - H.length]? = some (R n).own[id - H.length] := by simp [hxo]
      obtain ⟨q1, _, _, _, _, h | ⟨u, ou, t, pa, px, off, m, k, cs, ys, cs', v, u1, u2, u3, L', u4, u5, u6⟩⟩ := c.life hy
      · exact .inr ⟨_, _, by omega, hy, hS _ q1, ((wfS_none (ops := ops) (y := 0) h.1).2).trans hb⟩
      · refine .inr ⟨_, _, by omega, hy, hS _ q1, ?_⟩
        have e1 := (wfS_some (ops := ops) (S := S) (y := 0) u4).2
        rw [hS u u2] at e1
        simp only [if_true] at e1
        exact e1.trans hb
  have hrel : HRel ρ (H ++ (R n).N) w := by
    refine ⟨fun id b hb => ?_, fun i j bi bj g hij hi hj hw o1 o2 => ?_⟩
    · rcases cas id b hb with ⟨_, h⟩ | ⟨x, y, rfl, h1, h2, h3⟩
      · exact (I.hb id b h).move (fun _ => rfl) hlH
      · exact (I.ent x y b h1 h2 h3).1.move (fun _ => rfl) hl
    · rcases cas i bi hi with ⟨_, h⟩ | ⟨x, y, rfl, h1, h2, h3⟩ <;> rcases cas j bj hj with ⟨_, h'⟩ | ⟨x', y', rfl, h1', h2', h3'⟩
      · exact hH0.dis i j bi bj g hij h h' hw ((Occ.later h I.later).1 o1) ((Occ.later h' I.later).1 o2)
      · have := I.hocc i bi g h o1
        have := (I.ent x' y' bj h1' h2' h3').2 g o2
        omega
      · have := I.hocc j bj g h' o2
        have := (I.ent x y bi h1 h2 h3).2 g o1
        omega
      · exact I.dis x x' y y' bi bj g (fun e => hij (by rw [e])) h1 h1' h2 h2' h3 h3' hw o1 o2
  refine ⟨⟨(c.tmlen n (Nat.le_refl n)).trans I.len, fun t v hv => ?_⟩, hrel, I.later.agree, fun id b hb => ⟨b, ?_, Nat.le_refl _, fun _ => rfl⟩, ⟨I.below.os, I.below.tape, I.below.output, I.below.size, fun g hg _ => I.below.block g hg⟩, fun id b g hb ho => ?_⟩
  · rcases c.temp t n (Nat.le_refl n) with ⟨k, o, k1, k2, k3, k4⟩ | ⟨h1, h2⟩
    · rw [k4] at hv
      exact (I.t1 k (hS k k1) o t v k2 k3 hv).later hl
    · rw [h2] at hv
      exact (I.t2 t v hv fun k o hk => h1 k o (I.heads k hk)).later hlH
  · rw [List.getElem?_append_left (List.getElem?_eq_some_iff.1 hb).1]; exact hb
  · rcases cas id b hb with ⟨_, h⟩ | ⟨x, y, rfl, h1, h2, h3⟩
    · exact .inr ⟨b, h, (Occ.later h I.later).1 ho⟩
    · exact .inl ((I.ent x y b h1 h2 h3).2 g ho)
/-! ### which may come next -/
theorem listed_size {listed : Array Bool} {j : Nat} (h : listed.getD j false = true) : j < listed.size := by
  rcases Nat.lt_or_ge j listed.size with h' | h'
  · exact h'
  · simp [Array.getElem?_eq_none h'] at h
theorem getD_both {listed : Array Bool} {j : Nat} (h : j < listed.size) : listed.getD j true = listed.getD j false := by simp [h]
theorem ready_of (o : Ordered ops (clsOf ops [])) {listed : Array Bool} (hs : listed.size = ops.length) {j : Nat} (hj : j < ops.length) (h0 : listed.getD j false = false) (h : ∀ k, k < j → listed.getD k false = true) : j ∈ Region.ready .any ops.toArray listed := by
  refine mem_ready.2 ⟨by rw [getD_both (by omega)]; exact h0, ops[j], by simp [hj], fun e he hb => h _ (o.lt j hj _ (cls_edge (by simp [hj]) he hb))⟩
theorem least {p : Nat → Bool} : ∀ (n j : Nat), j ≤ n → p j = false → ∃ i, i ≤ j ∧ p i = false ∧ ∀ k, k < i → p k = true
  | 0, j, h, hp => ⟨j, Nat.le_refl _, hp, fun k hk => by omega⟩
  | n + 1, j, h, hp => by
    rcases Classical.em (∃ k, k < j ∧ p k = false) with ⟨k, hk, hpk⟩ | hno
    · obtain ⟨i, h1, h2, h3⟩ := least n k (by omega) hpk
      exact ⟨i, by omega, h2, h3⟩
    · refine ⟨j, Nat.le_refl _, hp, fun k hk => ?_⟩
      cases hq : p k with
      | true => rfl
      | false => exact absurd ⟨k, hk, hq⟩ hno
theorem ready_deps {listed : Array Bool} (hc : ∀ i, listed.getD i false = true → ∀ k, bit (clAt (clsOf ops []) i) k = true → listed.getD k false = true) {i : Nat} (h : i ∈ Region.ready .any ops.toArray listed) :
    i < ops.length ∧ listed.getD i true = false ∧ ∀ k, bit (clAt (clsOf ops []) i) k = true → listed.getD k false = true := by
  obtain ⟨h0, o, ho, hall⟩ := mem_ready.1 h
  have ho : ops[i]? = some o := by simpa using ho
  refine ⟨(List.getElem?_eq_some_iff.1 ho).1, h0, fun k hk => ?_⟩
  obtain ⟨e, e1, e2, e3⟩ := cls_sub ho hk
  have := hall e e1 e2
  rcases e3 with e3 | e3
  · rw [← e3]; exact this
  · exact hc _ this k e3
theorem set_listed {listed : Array Bool} {i : Nat} (h : i < listed.size) (j : Nat) : (listed.setIfInBounds i true).getD j false = true ↔ j = i ∨ listed.getD j false = true := by
  by_cases e : i = j
  · subst e
    simp [h]
  · rw [getD_set_ne false e]
    constructor
    · exact .inr
    · rintro (h | h)
      · exact absurd h.symm e
      · exact h
theorem count_listed {listed : Array Bool} {i : Nat} (h : i < listed.size) (h0 : listed.getD i true = false) : (listed.setIfInBounds i true).toList.count false + 1 = listed.toList.count false := by
  have hl : i < listed.toList.length := by simpa using h
  have e : listed.toList[i] = false := by simpa [h] using h0
  have hm : false ∈ listed.toList := by rw [← e]; exact List.getElem_mem hl
  have hpos : 0 < listed.toList.count false := List.count_pos_iff.2 hm
  rw [Array.toList_setIfInBounds, List.count_set hl, e]
  have e1 : ((false == false) = true) := rfl
  have e2 : ((true == false) = true) = False := by simp
  rw [if_pos e1, if_neg (by simp)]
  omega
/-- Behind the heads each operation has its turn. -/
theorem tail_goes {n0 : Nat} (hT : TabOk P T) (hcall : CallOk P call) (od : Ordered ops (clsOf ops [])) (h0 : ∀ j, n0 ≤ j → j < ops.length → ∀ i, i < j → bit (clAt (clsOf ops []) j) i = true) {Q : Exit → Act → World → Prop} : ∀ (l : List Oper) (k : Nat) (listed : Array Bool) {tm tm' : List V} {H H' : Heap} {ρ : Ren} {w : World} {a : Act},
    ops.drop k = l → n0 ≤ k → k ≤ ops.length → listed.size = ops.length → (∀ j, listed.getD j false = true ↔ j < k) → evSeq T call ops l tm H = some (tm', H') → TRel ρ H tm a.tmps → HRel ρ H w →
    (∀ a' ρ' w', TRel ρ' H' tm' a'.tmps → a'.defers = a.defers → Step ρ H w ρ' H' w' → Q .normal a' w') → wpAny P .any ops.toArray Q l.length listed a w
  | [], k, listed, tm, tm', H, H', ρ, w, a, hl, hk, hk2, hs, hj, h, ht, hH, hQ => by
    cases h
    have hlen : ops.length ≤ k := by simpa using hl
    show Region.ready .any ops.toArray listed = [] ∧ Q .normal a w
    refine ⟨List.eq_nil_iff_forall_not_mem.2 fun i hi => ?_, hQ a ρ w ht rfl (Step.refl hH)⟩
    obtain ⟨h1, o, ho, _⟩ := mem_ready.1 hi
    have : i < ops.length := by simpa using (Array.getElem?_eq_some_iff.1 ho).1
    rw [getD_both (by omega), (hj i).2 (by omega)] at h1
    cases h1
  | o :: l, k, listed, tm, tm', H, H', ρ, w, a, hl, hk, hk2, hs, hj, h, ht, hH, hQ => by
    obtain ⟨h1, h2⟩ := drop_cons hl
    have hkl : k < ops.length := (List.getElem?_eq_some_iff.1 h1).1
    have hkf : listed.getD k false = false := by
      cases hq : listed.getD k false with
      | false => rfl
      | true => exact absurd ((hj k).1 hq) (Nat.lt_irrefl _)
    have hc : ∀ i, listed.getD i false = true → ∀ k, bit (clAt (clsOf ops []) i) k = true → listed.getD k false = true := fun i hi k hk => by
      have := (hj i).1 hi
      have := od.lt i (by omega) k hk
      exact (hj k).2 (by omega)
    have hr := ready_of od hs hkl hkf fun j hjk => (hj j).2 hjk
    refine ⟨fun e => (by rw [e] at hr; cases hr), fun i hi => ?_⟩
    obtain ⟨i1, i2, i3⟩ := ready_deps hc hi
    have hik : i = k := by
      rcases Nat.lt_trichotomy i k with h3 | h3 | h3
      · rw [getD_both (by omega), (hj i).2 h3] at i2; cases i2
      · exact h3
      · have := i3 k (h0 i (by omega) i1 k h3)
        rw [hkf] at this; cases this
    subst hik
    rw [evSeq_cons] at h
    split at h
    · rename_i v H1 hs1
      split at h
      · rename_i tm1 hp
        refine evStep_goes hT hcall h1 hs1 hp ht hH fun a1 ρ1 w1 t1 d1 s1 => ?_
        refine tail_goes hT hcall od h0 l (i + 1) _ h2 (by omega) hkl (by simpa using hs) (fun j => ?_) h t1 s1.rel fun a' ρ' w' t' d' s' => hQ a' ρ' w' t' (d'.trans d1) (s1.trans s')
        rw [set_listed (by omega) j, hj j]
        omega
      · cases h
    · cases h
theorem heads_goes (c : Ctx P T call ops H tm0 n R) (hH0 : HRel ρ0 H w0) (h0 : ∀ j, n ≤ j → j < ops.length → ∀ i, i < j → bit (clAt (clsOf ops []) j) i = true) {Q : Exit → Act → World → Prop} {tm' : List V} {H' : Heap} (h : evSeq T call ops (ops.drop n) (R n).tm (H ++ (R n).N) = some (tm', H'))
    (hQ : ∀ a' ρ' w', TRel ρ' H' tm' a'.tmps → a'.defers = a0.defers → Step ρ0 H w0 ρ' H' w' → Q .normal a' w') : ∀ (fuel : Nat) (listed : Array Bool) {ρ : Ren} {w : World} {a : Act}, listed.size = ops.length → listed.toList.count false = fuel →
    Inv ops H tm0 n R ρ0 w0 a0 (fun j => listed.getD j false) ρ a w → wpAny P .any ops.toArray Q fuel listed a w := by
  have finish : ∀ (fuel : Nat) (listed : Array Bool) {ρ : Ren} {w : World} {a : Act}, listed.size = ops.length → listed.toList.count false = fuel →
    Inv ops H tm0 n R ρ0 w0 a0 (fun j => listed.getD j false) ρ a w → (∀ j, j < n → listed.getD j false = true) → wpAny P .any ops.toArray Q fuel listed a w := by
    intro fuel listed ρ w a hs hf I hall
    obtain ⟨t1, s1⟩ := c.done I hH0 hall
    have hj : ∀ j, listed.getD j false = true ↔ j < n := fun j => ⟨fun h => I.heads j h, hall j⟩
    have hlen : (ops.drop n).length = fuel := by
      rw [← hf, List.length_drop]
      have hlist : listed.toList = List.replicate n true ++ List.replicate (ops.length - n) false := by
        have hn := c.n_le
        refine List.ext_getElem (by simp [hs]; omega) fun i h1 h2 => ?_
        have hi : i < listed.size := by simpa using h1
        have e : listed.toList[i] = listed.getD i false := by simp [hi]
        rw [e]
        by_cases hin : i < n
        · rw [(hj i).2 hin, List.getElem_append_left (by simpa using hin)]; simp
        · have : listed.getD i false = false := by
            cases hq : listed.getD i false with
            | false => rfl
            | true => exact absurd ((hj i).1 hq) hin
          rw [this, List.getElem_append_right (by simpa using hin)]; simp
      rw [hlist, List.count_append, List.count_replicate, List.count_replicate]
      simp
    rw [← hlen]
    exact tail_goes c.hT c.hcall c.ord h0 (ops.drop n) n listed rfl (Nat.le_refl _) c.n_le hs hj h t1 s1.rel fun a' ρ' w' t' d' s' => hQ a' ρ' w' t' (d'.trans I.def_) (s1.trans s')
  intro fuel
  induction fuel with
  | zero =>
    intro listed ρ w a hs hf I
    refine finish 0 listed hs hf I fun j hj => ?_
    have hn := c.n_le
    cases hq : listed.getD j false with
    | true => rfl
    | false =>
      exfalso
      have hjs : j < listed.size := by omega
      have hm : false ∈ listed.toList := by
        have e : listed.toList[j] = false := by simpa [hjs] using hq
        rw [← e]; exact List.getElem_mem _
      have := List.count_pos_iff.2 hm
      omega
  | succ fuel ih =>
    intro listed ρ w a hs hf I
    rcases Classical.em (∀ j, j < n → listed.getD j false = true) with hall | hno
    · exact finish _ listed hs hf I hall
    · have ⟨j, hj⟩ := Classical.not_forall.1 hno
      have ⟨hjn, hjf⟩ := Classical.not_imp.1 hj
      have hjf : listed.getD j false = false := by simpa using hjf
      obtain ⟨i0, i1, i2, i3⟩ := least (p := fun j => listed.getD j false) j j (Nat.le_refl _) hjf
      have hn := c.n_le
      refine ⟨fun e => ?_, fun i hi => ?_⟩
      · have := ready_of c.ord hs (by omega) i2 i3
        rw [e] at this
        cases this
      · obtain ⟨q1, q2, q3⟩ := ready_deps I.closed hi
        have hin : i < n := by
          rcases Nat.lt_or_ge i n with h1 | h1
          · exact h1
          · exfalso
            have := q3 j (h0 i h1 q1 j (by omega))
            rw [hjf] at this; cases this
        have his : i < listed.size := by omega
        have hif : listed.getD i false = false := by rw [← getD_both his]; exact q2
        exact c.op I hin q3 hif (set_listed his) fun ρ' a' w' J => ih _ (by simpa using hs) (by have := count_listed his q2; omega) J
theorem evDraw_goes {call : CallF} {H' : Heap} (hT : TabOk P T) (hcall : CallOk P call) (hm : P.follows .mixedOrders = true) {ops : Array Oper} {id : Nat} {Q : Exit → Act → World → Prop} {tm tm' : List V} (h : evDraw T call ops.toList tm H = some (tm', H')) (ht : TRel ρ H tm a.tmps) (hH : HRel ρ H w)
    (hQ : ∀ a' ρ' w', TRel ρ' H' tm' a'.tmps → a'.defers = a.defers → Step ρ H w ρ' H' w' → Q .normal a' w') : (Code.region id ops true).wp P Q a w := by
  refine wp_region_any hm ?_
  have hHd : HRel ρ H { w with drawn := w.drawn + 1 } := ⟨fun id b hb => (hH.blk id b hb).keep (Nat.le_refl _) fun _ _ _ => rfl, hH.dis⟩
  have hsd : Step ρ H w ρ H { w with drawn := w.drawn + 1 } := ⟨hHd, fun _ _ _ => rfl, fun id b hb => ⟨b, hb, Nat.le_refl _, fun _ => rfl⟩, ⟨rfl, rfl, rfl, Nat.le_refl _, fun _ _ _ => rfl⟩, fun id b g hb ho => .inr ⟨b, hb, ho⟩⟩
  unfold evDraw at h
  obtain ⟨hb, h⟩ := bif_some h
  simp only [Bool.and_eq_true] at hb
  obtain ⟨⟨hb1, _⟩, hb3⟩ := hb
  obtain ⟨hn, htail⟩ := tailN_spec (clsOf ops.toList []) ops.toList.length
  split at h
  · rename_i r hr
    rw [appL_eq, dropL_eq] at h
    obtain ⟨R, r1, r2, r3⟩ := evAny_chain _ _ _ _ hr
    have hlen : (ops.toList.take (tailN (clsOf ops.toList []) ops.toList.length)).length = tailN (clsOf ops.toList []) ops.toList.length := by rw [List.length_take]; omega
    rw [hlen] at r2
    have steps : ∀ i o, i < tailN (clsOf ops.toList []) ops.toList.length → ops.toList[i]? = some o → stepR T call ops.toList H (clsOf ops.toList []) i o (R i) = some (R (i + 1)) := fun i o hi ho => by
      have := r3 i o (by rw [List.getElem?_take_of_lt hi]; exact ho)
      rwa [Nat.zero_add] at this
    have c : Ctx P T call ops.toList H tm (tailN (clsOf ops.toList []) ops.toList.length) R := by
      refine ⟨hT, hcall, ordered_of hb3 hb1, hn, ⟨by rw [r1]; exact ⟨rfl, rfl, rfl⟩, fun i hi => ?_⟩, by rw [r1], steps⟩
      have hi' : i < ops.toList.length := by omega
      exact stepR_grown (steps i ops.toList[i] hi (by simp))
    rw [← r2] at h
    refine heads_goes (ρ := ρ) (a0 := a) c hHd htail h (fun a' ρ' w' t' d' s' => hQ a' ρ' w' t' d' (hsd.trans s')) ops.size (Array.replicate ops.size false) (by simp) (by simp) ?_
    have hfalse : ∀ j, (Array.replicate ops.size false).getD j false = false := fun j => by
      cases hq : (Array.replicate ops.size false).getD j false with
      | false => rfl
      | true =>
        have := listed_size hq
        simp at this
        simp [this] at hq
    have no : ∀ {j : Nat} {p : Prop}, (Array.replicate ops.size false).getD j false = true → p := fun h => by rw [hfalse] at h; cases h
    exact ⟨fun i hi => no hi, fun i hi => no hi, .refl, hHd.blk, fun id b g hb ho => Occ.lt (hHd.blk id b hb) ho, .refl _ _, fun x y b _ hy => no hy, fun x x' y y' b b' g _ _ _ hy => no hy, ht.len, fun k hk => no hk, fun t v hv _ => ht.val t v hv, rfl⟩
  · cases h
end
end Go.Proofs.Ytbfepedjnlcgkaa.Pe
