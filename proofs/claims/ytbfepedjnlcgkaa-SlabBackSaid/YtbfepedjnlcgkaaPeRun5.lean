/- A plain reading of the model's code: regions that draw their order. -/
import Derived.Test.YtbfepedjnlcgkaaPeDrawF
set_option linter.unusedVariables false
namespace Go.Proofs.Ytbfepedjnlcgkaa.Pe
open Go.RowKit
section
variable {P : Program} {T : Tys} {call : CallF} {ops : List Oper} {H : Heap} {tm0 : List V} {n : Nat} {R : Nat → Rg} {ρ0 ρ ρ' : Ren} {w0 w w' : World} {a0 a : Act} {S S' : Nat → Bool}
/-- One more operation. -/
theorem Ctx.op (c : Ctx P T call ops H tm0 n R) (I : Inv ops H tm0 n R ρ0 w0 a0 S ρ a w) {i : Nat} (hi : i < n) (hS : ∀ k, bit (clAt (clsOf ops []) i) k = true → S k = true) (hn : S i = false) (hS' : ∀ j, S' j = true ↔ j = i ∨ S j = true)
    {K : Act → World → Prop} {Q : Exit → Act → World → Prop} (k : ∀ ρ' a' w', Inv ops H tm0 n R ρ0 w0 a0 S' ρ' a' w' → K a' w') : wpOp P ops.toArray Q i K a w := by
  obtain ⟨o, ho, hs⟩ := c.rstep hi
  have hi' : ops.toArray[i]? = some o := by simpa using ho
  unfold wpOp
  simp only [hi']
  by_cases hst : ∃ t pa px, o.op = .store t pa px
  · obtain ⟨t, pa, px, hst⟩ := hst
    obtain ⟨x, off, m, n', cs, ys, cs', v, y, L⟩ := stepR_store hst hs
    rw [c.wanted I hi hS hn ho L.want]
    simp only [if_true]
    obtain ⟨w', h1, h2⟩ := c.store I hi hS hn hS' ho L
    refine .inl ?_
    unfold Oper.wp
    have hrun : (execOp a.eval o).run P w = .ok .skip w' := by simp [execOp, hst, h1]
    rw [hrun]
    exact k ρ _ w' h2
  · have hno : ∀ t pa px, o.op ≠ .store t pa px := fun t pa px e => hst ⟨t, pa, px, e⟩
    obtain ⟨v, H', h1, h2, h3, h4, h5⟩ := stepR_other hno hs
    have hH := (c.view I hi hS hn (Hv := viewAt H (clsOf ops []) i (R i)) (c.viewLen (Nat.le_of_lt hi)) (fun id hid => c.viewOld hid) (fun x b' hx hb => .inl hb)).1
    unfold evStep at h1
    split at h1
    · rename_i hw
      rw [c.wanted I hi hS hn ho hw]
      simp only [if_true]
      refine .inl (evOp_goes c.hT c.hcall h1 (c.hop I hi hS hn ho) hH K Q fun cv ρ' w' g1 g2 => ?_)
      obtain ⟨ρ'', J⟩ := c.other I hi hS hn hS' ho hno h2 h5 g2 g1
      exact k ρ'' _ w' J
    · rename_i hw
      rw [c.wanted I hi hS hn ho hw]
      cases h1
      obtain ⟨ρ'', J⟩ := c.other (cv := undef) I hi hS hn hS' ho hno h2 h5 (Step.refl hH) rfl
      exact k ρ'' _ w J
    · cases h1
/-- All of the heads have been carried out. -/
theorem Ctx.done (c : Ctx P T call ops H tm0 n R) (I : Inv ops H tm0 n R ρ0 w0 a0 S ρ a w) (hH0 : HRel ρ0 H w0) (hS : ∀ j, j < n → S j = true) :
    TRel ρ (H ++ (R n).N) (R n).tm a.tmps ∧ Step ρ0 H w0 ρ (H ++ (R n).N) w := by
  have hl : ∀ {A : Nat → Bool}, Later ρ (Hst H (R n) A) ρ (H ++ (R n).N) := ⟨fun _ _ _ => rfl, fun id k hg => by
    rw [Gb_Hst] at hg
    rcases hg with ⟨b, hb, hk⟩ | ⟨x, y, b, rfl, e1, e2, e3, hk⟩
    · exact ⟨b, by rw [List.getElem?_append_left (List.getElem?_eq_some_iff.1 hb).1]; exact hb, hk⟩
    · exact ⟨b, by rw [List.getElem?_append_right (by omega), Nat.add_sub_cancel_left]; exact e2, hk⟩⟩
  have hlH : Later ρ H ρ (H ++ (R n).N) := (later_H_Hst (r := R n) (A := fun _ => false)).trans hl
  have cas : ∀ (id : Nat) b, (H ++ (R n).N)[id]? = some b → (id < H.length ∧ H[id]? = some b) ∨ ∃ x y, id = H.length + x ∧ (R n).own[x]? = some y ∧ S y = true ∧ blkS R n S x = some b := fun id b hb => by
    by_cases hid : id < H.length
    · exact .inl ⟨hid, by rw [List.getElem?_append_left hid] at hb; exact hb⟩
    · rw [List.getElem?_append_right (by omega)] at hb
      have hx := (List.getElem?_eq_some_iff.1 hb).1
      have hxo : id - H.length < (R n).own.length := by rw [(c.lens (Nat.le_refl n)).1]; exact hx
      have hy : (R n).own[id - H.length]? = some (R n).own[id - H.length] := by simp [hxo]
      obtain ⟨q1, _, _, _, _, h | ⟨u, ou, t, pa, px, off, m, k, cs, ys, cs', v, u1, u2, u3, L', u4, u5, u6⟩⟩ := c.life hy
      · exact .inr ⟨_, _, by omega, hy, hS _ q1, ((wfS_none (ops := ops) (y := 0) h.1).2).trans hb⟩
      · refine .inr ⟨_, _, by omega, hy, hS _ q1, ?_⟩
        have e1 := (wfS_some (ops := ops) (S := S) (y := 0) u4).2
        rw [hS u u2] at e1
        simp only [if_true] at e1
        exact e1.trans hb
  have hrel : HRel ρ (H ++ (R n).N) w := by
    refine ⟨fun id b hb => ?_, fun i j bi bj g hij hi hj hw o1 o2 => ?_⟩
    · rcases cas id b hb with ⟨_, h⟩ | ⟨x, y, rfl, h1, h2, h3⟩
      · exact (I.hb id b h).move (fun _ => rfl) hlH
      · exact (I.ent x y b h1 h2 h3).1.move (fun _ => rfl) hl
    · rcases cas i bi hi with ⟨_, h⟩ | ⟨x, y, rfl, h1, h2, h3⟩ <;> rcases cas j bj hj with ⟨_, h'⟩ | ⟨x', y', rfl, h1', h2', h3'⟩
      · exact hH0.dis i j bi bj g hij h h' hw ((Occ.later h I.later).1 o1) ((Occ.later h' I.later).1 o2)
      · have := I.hocc i bi g h o1
        have := (I.ent x' y' bj h1' h2' h3').2 g o2
        omega
      · have := I.hocc j bj g h' o2
        have := (I.ent x y bi h1 h2 h3).2 g o1
        omega
      · exact I.dis x x' y y' bi bj g (fun e => hij (by rw [e])) h1 h1' h2 h2' h3 h3' hw o1 o2
  refine ⟨⟨(c.tmlen n (Nat.le_refl n)).trans I.len, fun t v hv => ?_⟩, hrel, I.later.agree, fun id b hb => ⟨b, ?_, Nat.le_refl _, fun _ => rfl⟩, ⟨I.below.os, I.below.tape, I.below.output, I.below.size, fun g hg _ => I.below.block g hg⟩, fun id b g hb ho => ?_⟩
  · rcases c.temp t n (Nat.le_refl n) with ⟨k, o, k1, k2, k3, k4⟩ | ⟨h1, h2⟩
    · rw [k4] at hv
      exact (I.t1 k (hS k k1) o t v k2 k3 hv).later hl
    · rw [h2] at hv
      exact (I.t2 t v hv fun k o hk => h1 k o (I.heads k hk)).later hlH
  · rw [List.getElem?_append_left (List.getElem?_eq_some_iff.1 hb).1]; exact hb
  · rcases cas id b hb with ⟨_, h⟩ | ⟨x, y, rfl, h1, h2, h3⟩
    · exact .inr ⟨b, h, (Occ.later h I.later).1 ho⟩
    · exact .inl ((I.ent x y b h1 h2 h3).2 g ho)
/-! ### which may come next -/
theorem listed_size {listed : Array Bool} {j : Nat} (h : listed.getD j false = true) : j < listed.size := by
  rcases Nat.lt_or_ge j listed.size with h' | h'
  · exact h'
  · simp [Array.getElem?_eq_none h'] at h
theorem getD_both {listed : Array Bool} {j : Nat} (h : j < listed.size) : listed.getD j true = listed.getD j false := by simp [h]
theorem ready_of (o : Ordered ops (clsOf ops [])) {listed : Array Bool} (hs : listed.size = ops.length) {j : Nat} (hj : j < ops.length) (h0 : listed.getD j false = false) (h : ∀ k, k < j → listed.getD k false = true) : j ∈ Region.ready .any ops.toArray listed := by
  refine mem_ready.2 ⟨by rw [getD_both (by omega)]; exact h0, ops[j], by simp [hj], fun e he hb => h _ (o.lt j hj _ (cls_edge (by simp [hj]) he hb))⟩
theorem least {p : Nat → Bool} : ∀ (n j : Nat), j ≤ n → p j = false → ∃ i, i ≤ j ∧ p i = false ∧ ∀ k, k < i → p k = true
  | 0, j, h, hp => ⟨j, Nat.le_refl _, hp, fun k hk => by omega⟩
  | n + 1, j, h, hp => by
    rcases Classical.em (∃ k, k < j ∧ p k = false) with ⟨k, hk, hpk⟩ | hno
    · obtain ⟨i, h1, h2, h3⟩ := least n k (by omega) hpk
      exact ⟨i, by omega, h2, h3⟩
    · refine ⟨j, Nat.le_refl _, hp, fun k hk => ?_⟩
      cases hq : p k with
      | true => rfl
      | false => exact absurd ⟨k, hk, hq⟩ hno
theorem ready_deps {listed : Array Bool} (hc : ∀ i, listed.getD i false = true → ∀ k, bit (clAt (clsOf ops []) i) k = true → listed.getD k false = true) {i : Nat} (h : i ∈ Region.ready .any ops.toArray listed) :
    i < ops.length ∧ listed.getD i true = false ∧ ∀ k, bit (clAt (clsOf ops []) i) k = true → listed.getD k false = true := by
  obtain ⟨h0, o, ho, hall⟩ := mem_ready.1 h
  have ho : ops[i]? = some o := by simpa using ho
  refine ⟨(List.getElem?_eq_some_iff.1 ho).1, h0, fun k hk => ?_⟩
  obtain ⟨e, e1, e2, e3⟩ := cls_sub ho hk
  have := hall e e1 e2
  rcases e3 with e3 | e3
  · rw [← e3]; exact this
  · exact hc _ this k e3
theorem set_listed {listed : Array Bool} {i : Nat} (h : i < listed.size) (j : Nat) : (listed.setIfInBounds i true).getD j false = true ↔ j = i ∨ listed.getD j false = true := by
  by_cases e : i = j
  · subst e
    simp [h]
  · rw [getD_set_ne false e]
    constructor
    · exact .inr
    · rintro (h | h)
      · exact absurd h.symm e
      · exact h
theorem count_listed {listed : Array Bool} {i : Nat} (h : i < listed.size) (h0 : listed.getD i true = false) : (listed.setIfInBounds i true).toList.count false + 1 = listed.toList.count false := by
  have hl : i < listed.toList.length := by simpa using h
  have e : listed.toList[i] = false := by simpa [h] using h0
  have hm : false ∈ listed.toList := by rw [← e]; exact List.getElem_mem hl
  have hpos : 0 < listed.toList.count false := List.count_pos_iff.2 hm
  rw [Array.toList_setIfInBounds, List.count_set hl, e]
  have e1 : ((false == false) = true) := rfl
  have e2 : ((true == false) = true) = False := by simp
  rw [if_pos e1, if_neg (by simp)]
  omega
/-! ### free moves, left pending -/
theorem freeM_spec {cls : List Nat} {i : Nat} (h : freeM ops cls i = true) : clAt cls i = 0 ∧ ∃ o x, ops[i]? = some o ∧ o.op = .move x ∧ o.guard = none := by
  unfold freeM at h
  rw [Bool.and_eq_true] at h
  refine ⟨beq_nat h.1, ?_⟩
  have h2 := h.2
  rw [getL_eq] at h2
  split at h2
  · rename_i o ho
    split at h2
    · rename_i x hx hg
      exact ⟨o, x, ho, hx, hg⟩
    · cases h2
  · cases h2
theorem tailF_spec (cls : List Nat) : ∀ (m : Nat), tailF ops cls m ≤ m ∧ ∀ j, tailF ops cls m ≤ j → j < m → freeM ops cls j = false ∧ ∀ i, i < j → bit (clAt cls j) i = true ∨ freeM ops cls i = true
  | 0 => ⟨Nat.le_refl _, fun j _ h => by omega⟩
  | m + 1 => by
    unfold tailF
    split
    · rename_i hall
      rw [Bool.and_eq_true] at hall
      obtain ⟨h1, h2⟩ := tailF_spec cls m
      refine ⟨by omega, fun j hj hjm => ?_⟩
      by_cases e : j = m
      · subst e
        refine ⟨by simpa using hall.1, fun i hi => ?_⟩
        have := (List.all_eq_true.1 hall.2) i (List.mem_range.2 hi)
        simpa using this
      · exact h2 j hj (by omega)
    · exact ⟨Nat.le_refl _, fun j hj hjm => by omega⟩
theorem tailX_spec (cls : List Nat) : tailX ops cls ≤ ops.length ∧ ∀ j, tailX ops cls ≤ j → j < ops.length → ∀ i, i < j → bit (clAt cls j) i = true ∨ (i < tailX ops cls ∧ freeM ops cls i = true) := by
  unfold tailX
  cases Nat.ble (tailF ops cls ops.length + 1) (tailN cls ops.length) && isApp (getL ops (tailF ops cls ops.length)) with
  | false =>
    obtain ⟨h1, h2⟩ := tailN_spec cls ops.length
    exact ⟨h1, fun j hj hl i hi => .inl (h2 j hj hl i hi)⟩
  | true =>
    obtain ⟨h1, h2⟩ := tailF_spec (ops := ops) cls ops.length
    refine ⟨h1, fun j hj hl i hi => ?_⟩
    rcases (h2 j hj hl).2 i hi with h | h
    · exact .inl h
    · refine .inr ⟨?_, h⟩
      rcases Nat.lt_or_ge i (tailF ops cls ops.length) with h3 | h3
      · exact h3
      · rw [(h2 i h3 (by omega)).1] at h; cases h
theorem far (od : Ordered ops (clsOf ops [])) {i k : Nat} {oi ok : Oper} {d : Tmp} (hne : i ≠ k) (hi : ops[i]? = some oi) (hk : ops[k]? = some ok) (hd : ok.dst = some d) (b1 : bit (clAt (clsOf ops []) i) k = false) (b2 : bit (clAt (clsOf ops []) k) i = false) : oi.dst ≠ some d ∧ d ∉ reads ops oi := by
  obtain ⟨h1, h2⟩ := od.ap i k oi ok d hne hi hk hd
  rw [b1, b2] at h2
  exact ⟨h1, by simpa using h2⟩
theorem bit_free {i k : Nat} (h : freeM ops (clsOf ops []) i = true) : bit (clAt (clsOf ops []) i) k = false := by
  rw [(freeM_spec h).1, bit_zero]
theorem mem_reads {o : Oper} {t : Tmp} (h : Operand.tmp t ∈ o.op.operands.toList) : t ∈ reads ops o := by
  unfold reads
  exact List.mem_append_left _ (List.mem_filterMap.2 ⟨.tmp t, h, rfl⟩)
/-- The free moves of the set have been made in b, and not in a. -/
structure Pend (ops : List Oper) (p : Nat → Prop) (a b : Act) : Prop where
  size : a.tmps.size = b.tmps.size
  defs : a.defers = b.defers
  same : ∀ t, (∀ i o, p i → ops[i]? = some o → o.dst ≠ some t) → a.tmps.getD t undef = b.tmps.getD t undef
  val : ∀ i o x d, p i → ops[i]? = some o → o.op = .move x → o.dst = some d → d < b.tmps.size → b.tmps.getD d undef = a.eval x
theorem Pend.congr {p q : Nat → Prop} {b : Act} (h : Pend ops p a b) (e : ∀ i, p i ↔ q i) : Pend ops q a b :=
  ⟨h.size, h.defs, fun t ht => h.same t fun i o hp => ht i o ((e i).1 hp), fun i o x d hq => h.val i o x d ((e i).2 hq)⟩
theorem Pend.eval {p : Nat → Prop} {b : Act} (h : Pend ops p a b) {x : Operand} (hx : ∀ t, x = .tmp t → ∀ i o, p i → ops[i]? = some o → o.dst ≠ some t) : a.eval x = b.eval x := by
  cases x with
  | tmp t => exact h.same t (hx t rfl)
  | _ => rfl
theorem put_ne (a : Act) {d : Option Tmp} {t : Tmp} (v : Value) (h : d ≠ some t) : (a.put d v).tmps.getD t undef = a.tmps.getD t undef := by
  cases d with
  | none => rfl
  | some d =>
    have : d ≠ t := fun e => h (by rw [e])
    simp [Act.put, Array.getElem?_setIfInBounds, this]
theorem put_eq (a : Act) {t : Tmp} (v : Value) (h : t < a.tmps.size) : (a.put (some t) v).tmps.getD t undef = v := by
  simp [Act.put, h]
theorem put_eval (a : Act) {d : Option Tmp} (v : Value) {x : Operand} (h : ∀ t, x = .tmp t → d ≠ some t) : (a.put d v).eval x = a.eval x := by
  cases x with
  | tmp t => exact put_ne a v (h t rfl)
  | _ => rfl
/-- A free move, made. -/
theorem Ctx.free (c : Ctx P T call ops H tm0 n R) (I : Inv ops H tm0 n R ρ0 w0 a0 S ρ a w) {i : Nat} (hi : i < n) (hf : freeM ops (clsOf ops []) i = true) (hn : S i = false) (hS' : ∀ j, S' j = true ↔ j = i ∨ S j = true) {o : Oper} {x : Operand} (ho : ops[i]? = some o) (hop : o.op = .move x) (hg : o.guard = none) :
    ∃ ρ'', Inv ops H tm0 n R ρ0 w0 a0 S' ρ'' (a.put o.dst (a.eval x)) w := by
  obtain ⟨o', ho', hs⟩ := c.rstep hi
  rw [ho] at ho'
  cases ho'
  have hno : ∀ t pa px, o.op ≠ .store t pa px := fun t pa px e => by rw [hop] at e; cases e
  have hS : ∀ k, bit (clAt (clsOf ops []) i) k = true → S k = true := fun k hk => by rw [bit_free hf] at hk; cases hk
  obtain ⟨v, H', h1, h2, h3, h4, h5⟩ := stepR_other hno hs
  have hH := (c.view I hi hS hn (Hv := viewAt H (clsOf ops []) i (R i)) (c.viewLen (Nat.le_of_lt hi)) (fun id hid => c.viewOld hid) (fun x b' hx hb => .inl hb)).1
  unfold evStep wantedE at h1
  simp only [hg, hop, evOp] at h1
  obtain ⟨v0, e1, e2⟩ := map_some h1
  cases e2
  have hx : x ∈ o.op.operands.toList := by rw [hop]; simp [Op.operands]
  exact c.other I hi hS hn hS' ho hno h2 h5 (Step.refl hH) (c.hop I hi hS hn ho x hx _ e1)
/-- The free moves that are left, made. -/
theorem Ctx.virt (c : Ctx P T call ops H tm0 n R) (I : Inv ops H tm0 n R ρ0 w0 a0 S ρ a w) (hfr : ∀ j, j < n → S j = true ∨ freeM ops (clsOf ops []) j = true) : ∀ k, k ≤ n →
    ∃ ρ' b, Inv ops H tm0 n R ρ0 w0 a0 (fun j => S j || Nat.ble (j + 1) k) ρ' b w ∧ Pend ops (fun i => i < k ∧ S i = false) a b
  | 0, _ => by
    refine ⟨ρ, a, ?_, rfl, rfl, fun _ _ => rfl, fun i o x d hp => by omega⟩
    have : (fun j => S j || Nat.ble (j + 1) 0) = S := by funext j; simp [Nat.ble]
    rw [this]; exact I
  | k + 1, hk => by
    obtain ⟨ρ', b, J, pd⟩ := c.virt I hfr k (by omega)
    have hS' : ∀ j, (S j || Nat.ble (j + 1) (k + 1)) = true ↔ j = k ∨ (S j || Nat.ble (j + 1) k) = true := fun j => by
      simp only [Bool.or_eq_true, Nat.ble_eq]
      constructor
      · rintro (h | h)
        · exact .inr (.inl h)
        · by_cases e : j = k
          · exact .inl e
          · exact .inr (.inr (by omega))
      · rintro (h | h | h)
        · exact .inr (by omega)
        · exact .inl h
        · exact .inr (by omega)
    cases hq : S k with
    | true =>
      refine ⟨ρ', b, ?_, pd.congr fun i => ?_⟩
      · have : (fun j => S j || Nat.ble (j + 1) (k + 1)) = fun j => S j || Nat.ble (j + 1) k := by
          funext j
          rw [Bool.eq_iff_iff, hS' j]
          constructor
          · rintro (h | h)
            · subst h; simp [hq]
            · exact h
          · exact .inr
        rw [this]; exact J
      · constructor
        · rintro ⟨h1, h2⟩; exact ⟨by omega, h2⟩
        · rintro ⟨h1, h2⟩
          refine ⟨?_, h2⟩
          by_cases e : i = k
          · subst e; rw [hq] at h2; cases h2
          · omega
    | false =>
      have hf : freeM ops (clsOf ops []) k = true := (hfr k (by omega)).resolve_left (by simp [hq])
      obtain ⟨_, o, x, ho, hop, hg⟩ := freeM_spec hf
      have hnk : (S k || Nat.ble (k + 1) k) = false := by
        rw [hq, Bool.false_or]
        cases hb : Nat.ble (k + 1) k with
        | false => rfl
        | true => have := Nat.le_of_ble_eq_true hb; omega
      obtain ⟨ρ'', J'⟩ := c.free J (by omega) hf hnk hS' ho hop hg
      have free : ∀ i, i < k ∧ S i = false → freeM ops (clsOf ops []) i = true := fun i hi => (hfr i (by omega)).resolve_left (by simp [hi.2])
      have hev : a.eval x = b.eval x := pd.eval fun t ht i oi hp hoi hd => by
        have := (far c.ord (i := k) (k := i) (by omega) ho hoi hd (bit_free hf) (bit_free (free i hp))).2
        exact this (mem_reads (by rw [hop]; simp [Op.operands, ht]))
      refine ⟨ρ'', _, J', by rw [put_size]; exact pd.size, by rw [put_defers]; exact pd.defs, fun t ht => ?_, fun i oi y d hp hoi hy hd hlt => ?_⟩
      · rw [put_ne b _ (ht k o ⟨by omega, hq⟩ ho)]
        exact pd.same t fun i oi hp => ht i oi ⟨by omega, hp.2⟩
      · rw [put_size] at hlt
        by_cases e : i = k
        · subst e
          rw [ho] at hoi
          cases hoi
          rw [hop] at hy
          cases hy
          rw [hd, put_eq b _ hlt, hev]
        · have hp' : i < k ∧ S i = false := ⟨by omega, hp.2⟩
          rw [put_ne b _ (far c.ord (i := k) (k := i) (fun e' => e e'.symm) ho hoi hd (bit_free hf) (bit_free (free i hp'))).1]
          exact pd.val i oi y d hp' hoi hy hd hlt
theorem unlisted {listed : Array Bool} {m : Nat} (h : listed.toList.count false = m + 1) : ∃ j, j < listed.size ∧ listed.getD j false = false := by
  have hm : false ∈ listed.toList := List.count_pos_iff.1 (by omega)
  obtain ⟨j, hj, e⟩ := List.getElem_of_mem hm
  have hj' : j < listed.size := by simpa using hj
  exact ⟨j, hj', by simpa [hj'] using e⟩
theorem all_listed {listed : Array Bool} (h : listed.toList.count false = 0) (j : Nat) (hj : j < listed.size) : listed.getD j false = true := by
  cases hq : listed.getD j false with
  | true => rfl
  | false =>
    exfalso
    have hm : false ∈ listed.toList := by
      have e : listed.toList[j] = false := by simpa [hj] using hq
      rw [← e]; exact List.getElem_mem _
    have := List.count_pos_iff.2 hm
    omega
/-- Behind the heads each operation has its turn; free moves of the heads may be left. -/
theorem tail_goes {n0 : Nat} (hT : TabOk P T) (hcall : CallOk P call) (od : Ordered ops (clsOf ops [])) (h0 : ∀ j, n0 ≤ j → j < ops.length → ∀ i, i < j → bit (clAt (clsOf ops []) j) i = true ∨ (i < n0 ∧ freeM ops (clsOf ops []) i = true)) {Q : Exit → Act → World → Prop} : ∀ (fuel : Nat) (l : List Oper) (k : Nat) (listed : Array Bool) {tm tm' : List V} {H H' : Heap} {ρ : Ren} {w : World} {a b : Act},
    ops.drop k = l → n0 ≤ k → k ≤ ops.length → listed.size = ops.length → listed.toList.count false = fuel → (∀ j, listed.getD j false = true → j < k) → (∀ j, j < k → listed.getD j false = false → j < n0 ∧ freeM ops (clsOf ops []) j = true) →
    (∀ i, listed.getD i false = true → ∀ k, bit (clAt (clsOf ops []) i) k = true → listed.getD k false = true) → Pend ops (fun j => j < n0 ∧ listed.getD j false = false) a b → evSeq T call ops l tm H = some (tm', H') → TRel ρ H tm b.tmps → HRel ρ H w →
    (∀ a' ρ' w', TRel ρ' H' tm' a'.tmps → a'.defers = b.defers → Step ρ H w ρ' H' w' → Q .normal a' w') → wpAny P .any ops.toArray Q fuel listed a w
  | 0, l, k, listed, tm, tm', H, H', ρ, w, a, b, hl, hk, hk2, hs, hf, hj, hj2, hc, pd, h, ht, hH, hQ => by
    have hall := all_listed hf
    have hkl : ops.length ≤ k := by
      rcases Nat.lt_or_ge k ops.length with h1 | h1
      · have := hj k (hall k (by omega)); omega
      · exact h1
    have : l = [] := by rw [← hl]; simpa using hkl
    subst this
    cases h
    show Region.ready .any ops.toArray listed = [] ∧ Q .normal a w
    refine ⟨List.eq_nil_iff_forall_not_mem.2 fun i hi => ?_, hQ a ρ w ⟨by rw [ht.len, pd.size], fun t v hv => ?_⟩ pd.defs (Step.refl hH)⟩
    · obtain ⟨h1, o, ho, _⟩ := mem_ready.1 hi
      have : i < ops.length := by simpa using (Array.getElem?_eq_some_iff.1 ho).1
      rw [getD_both (by omega), hall i (by omega)] at h1
      cases h1
    · rw [pd.same t fun i o hp => by rw [hall i (by have := hk2; omega)] at hp; cases hp.2]
      exact ht.val t v hv
  | fuel + 1, l, k, listed, tm, tm', H, H', ρ, w, a, b, hl, hk, hk2, hs, hf, hj, hj2, hc, pd, h, ht, hH, hQ => by
    refine ⟨fun e => ?_, fun i hi => ?_⟩
    · obtain ⟨j, j1, j2⟩ := unlisted hf
      obtain ⟨i0, i1, i2, i3⟩ := least (p := fun j => listed.getD j false) j j (Nat.le_refl _) j2
      have := ready_of od hs (by omega) i2 i3
      rw [e] at this
      cases this
    · obtain ⟨i1, i2, i3⟩ := ready_deps hc hi
      have his : i < listed.size := by omega
      have hif : listed.getD i false = false := by rw [← getD_both his]; exact i2
      have hcnt : (listed.setIfInBounds i true).toList.count false = fuel := by have := count_listed his i2; omega
      have hc' : ∀ j, (listed.setIfInBounds i true).getD j false = true → ∀ k, bit (clAt (clsOf ops []) j) k = true → (listed.setIfInBounds i true).getD k false = true := fun j h1 k h2 => by
        rw [set_listed his] at h1 ⊢
        rcases h1 with h1 | h1
        · subst h1; exact .inr (i3 k h2)
        · exact .inr (hc j h1 k h2)
      have hset : ∀ j, (listed.setIfInBounds i true).getD j false = false ↔ j ≠ i ∧ listed.getD j false = false := fun j => by
        have := set_listed his j
        constructor
        · intro h1
          refine ⟨fun e => ?_, ?_⟩
          · rw [this.2 (.inl e)] at h1; cases h1
          · cases h2 : listed.getD j false with
            | false => rfl
            | true => rw [this.2 (.inr h2)] at h1; cases h1
        · rintro ⟨h1, h2⟩
          cases h3 : (listed.setIfInBounds i true).getD j false with
          | false => rfl
          | true =>
            rcases this.1 h3 with h4 | h4
            · exact absurd h4 h1
            · rw [h2] at h4; cases h4
      have frees : ∀ j, j < n0 ∧ listed.getD j false = false → freeM ops (clsOf ops []) j = true := fun j hp => (hj2 j (by omega) hp.2).2
      rcases Nat.lt_trichotomy i k with h3 | h3 | h3
      · obtain ⟨hin, hfree⟩ := hj2 i h3 hif
        obtain ⟨_, o, x, ho, hop, hg⟩ := freeM_spec hfree
        have ho' : ops.toArray[i]? = some o := by simpa using ho
        have hw : Region.wanted o (yielded ops.toArray a.tmps) = true := by simp [Region.wanted, hg]
        unfold wpOp
        simp only [ho', hw, if_true]
        refine .inl ?_
        unfold Oper.wp
        have hrun : (execOp a.eval o).run P w = .ok (.value (a.eval x)) w := by simp [execOp, hop]
        rw [hrun]
        show wpAny P .any ops.toArray Q fuel (listed.setIfInBounds i true) (a.put o.dst (a.eval x)) w
        refine tail_goes hT hcall od h0 fuel l k _ hl hk hk2 (by simpa using hs) hcnt (fun j h1 => ?_) (fun j h1 h2 => hj2 j h1 ((hset j).1 h2).2) hc' ⟨by rw [put_size]; exact pd.size, by rw [put_defers]; exact pd.defs, fun t hall => ?_, fun j oj y d hp hoj hy hd hlt => ?_⟩ h ht hH hQ
        · rcases (set_listed his j).1 h1 with h1 | h1
          · omega
          · exact hj j h1
        · by_cases hdt : o.dst = some t
          · rcases Nat.lt_or_ge t b.tmps.size with hlt | hge
            · rw [hdt, put_eq a _ (by rw [pd.size]; exact hlt)]
              exact (pd.val i o x t ⟨hin, hif⟩ ho hop hdt hlt).symm
            · have e1 : (a.put o.dst (a.eval x)).tmps.size ≤ t := by rw [put_size, pd.size]; exact hge
              simp [Array.getElem?_eq_none e1, Array.getElem?_eq_none hge]
          · rw [put_ne a _ hdt]
            refine pd.same t fun j oj hp hoj => ?_
            by_cases e : j = i
            · subst e; rw [ho] at hoj; cases hoj; exact hdt
            · exact hall j oj ⟨hp.1, (hset j).2 ⟨e, hp.2⟩⟩ hoj
        · have hp2 := (hset j).1 hp.2
          rw [pd.val j oj y d ⟨hp.1, hp2.2⟩ hoj hy hd hlt]
          refine (put_eval a _ fun t ht hd' => ?_).symm
          exact (far od (i := j) (k := i) hp2.1 hoj ho hd' (bit_free (frees j ⟨hp.1, hp2.2⟩)) (bit_free hfree)).2 (mem_reads (by rw [hy]; simp [Op.operands, ht]))
      · subst h3
        obtain ⟨o, ho⟩ : ∃ o, ops[i]? = some o := ⟨ops[i], by simp [i1]⟩
        have hl' : l = o :: ops.drop (i + 1) := by
          rw [← hl, List.drop_eq_getElem_cons i1]
          rw [List.getElem?_eq_getElem i1] at ho
          cases ho; rfl
        subst hl'
        have apart : ∀ j oj d, j < n0 ∧ listed.getD j false = false → ops[j]? = some oj → oj.dst = some d → o.dst ≠ some d ∧ d ∉ reads ops o := fun j oj d hp hoj hd => by
          refine far od (i := i) (k := j) (by omega) ho hoj hd ?_ (bit_free (frees j hp))
          cases hb : bit (clAt (clsOf ops []) i) j with
          | false => rfl
          | true => have := i3 j hb; rw [hp.2] at this; cases this
        have apart2 : ∀ j oj d, j < n0 ∧ listed.getD j false = false → ops[j]? = some oj → o.dst = some d → d ∉ reads ops oj := fun j oj d hp hoj hd => by
          refine (far od (i := j) (k := i) (by omega) hoj ho hd (bit_free (frees j hp)) ?_).2
          cases hb : bit (clAt (clsOf ops []) i) j with
          | false => rfl
          | true => have := i3 j hb; rw [hp.2] at this; cases this
        have rd : ∀ t, t ∈ reads ops o → a.tmps.getD t undef = b.tmps.getD t undef := fun t hr => pd.same t fun j oj hp hoj hd => (apart j oj t hp hoj hd).2 hr
        have hop : Hop ρ H tm a o.op.operands.toList := fun x hx v hv => by
          have e : a.eval x = b.eval x := by
            cases x with
            | tmp t => exact rd t (mem_reads hx)
            | _ => rfl
          rw [e]
          exact opnd_rel ht hv
        have ho' : ops.toArray[i]? = some o := by simpa using ho
        have next : ∀ {tm1 : List V} {H1 : Heap} {ρ1 : Ren} {w1 : World} {v : V} {cv : Value}, putT tm o.dst v = some tm1 → evSeq T call ops (ops.drop (i + 1)) tm1 H1 = some (tm', H') → VRel ρ1 H1 v cv → Step ρ H w ρ1 H1 w1 → wpAny P .any ops.toArray Q fuel (listed.setIfInBounds i true) (a.put o.dst cv) w1 := by
          intro tm1 H1 ρ1 w1 v cv hp h hv s1
          refine tail_goes hT hcall od h0 fuel (ops.drop (i + 1)) (i + 1) _ rfl (by omega) i1 (by simpa using hs) hcnt (fun j h1 => ?_) (fun j h1 h2 => ?_) hc' (b := b.put o.dst cv) ⟨by rw [put_size, put_size]; exact pd.size, by rw [put_defers, put_defers]; exact pd.defs, fun t hall => ?_, fun j oj y d hp hoj hy hd hlt => ?_⟩ h ((ht.later s1.later).put hp hv) s1.rel fun a' ρ' w' t' d' s' => hQ a' ρ' w' t' (by rw [d', put_defers]) (s1.trans s')
          · rcases (set_listed his j).1 h1 with h1 | h1
            · omega
            · have := hj j h1; omega
          · have h2 := (hset j).1 h2
            exact hj2 j (by omega) h2.2
          · have hsame : ∀ j oj, j < n0 ∧ listed.getD j false = false → ops[j]? = some oj → oj.dst ≠ some t := fun j oj hp => hall j oj ⟨hp.1, (hset j).2 ⟨by omega, hp.2⟩⟩
            by_cases hdt : o.dst = some t
            · rcases Nat.lt_or_ge t b.tmps.size with hlt | hge
              · rw [hdt, put_eq b _ hlt, put_eq a _ (by rw [pd.size]; exact hlt)]
              · have e1 : (a.put o.dst cv).tmps.size ≤ t := by rw [put_size, pd.size]; exact hge
                have e2 : (b.put o.dst cv).tmps.size ≤ t := by rw [put_size]; exact hge
                simp [Array.getElem?_eq_none e1, Array.getElem?_eq_none e2]
            · rw [put_ne a _ hdt, put_ne b _ hdt]
              exact pd.same t hsame
          · have hp2 := ((hset j).1 hp.2).2
            rw [put_size] at hlt
            rw [put_ne b _ (apart j oj d ⟨hp.1, hp2⟩ hoj hd).1, pd.val j oj y d ⟨hp.1, hp2⟩ hoj hy hd hlt]
            exact (put_eval a _ fun t ht hd' => apart2 j oj t ⟨hp.1, hp2⟩ hoj hd' (mem_reads (by rw [hy]; simp [Op.operands, ht]))).symm
        have hwant : ∀ {bb : Bool}, wantedE ops o tm = some bb → Region.wanted o (yielded ops.toArray a.tmps) = bb := fun hw => by
          refine wanted_rel' (ρ := ρ) (H := H) (fun j want d x hg hd hx => ?_) hw
          obtain ⟨u, e1, e2⟩ := ht.at_ hx
          have hr : d ∈ reads ops o := by
            unfold reads
            refine List.mem_append_right _ ?_
            rw [hg]
            simp [hd]
          have hlt : d < b.tmps.size := (Array.getElem?_eq_some_iff.1 e1).1
          have hla : d < a.tmps.size := by rw [pd.size]; exact hlt
          have e3 := rd d hr
          refine ⟨u, ?_, e2⟩
          have e4 : b.tmps.getD d undef = u := by simp [e1]
          rw [e4] at e3
          simp [hla] at e3 ⊢
          exact e3
        rw [evSeq_cons] at h
        split at h
        · rename_i v H1 hs1
          split at h
          · rename_i tm1 hp
            unfold wpOp
            simp only [ho']
            unfold evStep at hs1
            split at hs1
            · rename_i hw
              rw [hwant hw]
              simp only [if_true]
              exact .inl (evOp_goes hT hcall hs1 hop hH _ Q fun cv ρ1 w1 g1 g2 => next hp h g1 g2)
            · rename_i hw
              rw [hwant hw]
              cases hs1
              exact next hp h rfl (Step.refl hH)
            · cases hs1
          · cases h
        · cases h
      · exfalso
        rcases h0 i (by omega) i1 k h3 with h4 | h4
        · have := hj k (i3 k h4); omega
        · omega
theorem heads_goes (c : Ctx P T call ops H tm0 n R) (hH0 : HRel ρ0 H w0) (h0 : ∀ j, n ≤ j → j < ops.length → ∀ i, i < j → bit (clAt (clsOf ops []) j) i = true ∨ (i < n ∧ freeM ops (clsOf ops []) i = true)) {Q : Exit → Act → World → Prop} {tm' : List V} {H' : Heap} (h : evSeq T call ops (ops.drop n) (R n).tm (H ++ (R n).N) = some (tm', H'))
    (hQ : ∀ a' ρ' w', TRel ρ' H' tm' a'.tmps → a'.defers = a0.defers → Step ρ0 H w0 ρ' H' w' → Q .normal a' w') : ∀ (fuel : Nat) (listed : Array Bool) {ρ : Ren} {w : World} {a : Act}, listed.size = ops.length → listed.toList.count false = fuel →
    Inv ops H tm0 n R ρ0 w0 a0 (fun j => listed.getD j false) ρ a w → wpAny P .any ops.toArray Q fuel listed a w := by
  have finish : ∀ (fuel : Nat) (listed : Array Bool) {ρ : Ren} {w : World} {a : Act}, listed.size = ops.length → listed.toList.count false = fuel →
    Inv ops H tm0 n R ρ0 w0 a0 (fun j => listed.getD j false) ρ a w → (∀ j, j < n → listed.getD j false = true ∨ freeM ops (clsOf ops []) j = true) → wpAny P .any ops.toArray Q fuel listed a w := by
    intro fuel listed ρ w a hs hf I hall
    obtain ⟨ρ', b, J, pd⟩ := c.virt I hall n (Nat.le_refl _)
    obtain ⟨t1, s1⟩ := c.done J hH0 fun j hj => by simp; exact .inr hj
    exact tail_goes c.hT c.hcall c.ord h0 fuel (ops.drop n) n listed rfl (Nat.le_refl _) c.n_le hs hf (fun j h => I.heads j h) (fun j h1 h2 => ⟨h1, (hall j h1).resolve_left (by simp only [h2]; exact Bool.noConfusion)⟩) I.closed pd h t1 s1.rel fun a' ρ' w' t' d' s' => hQ a' ρ' w' t' (d'.trans J.def_) (s1.trans s')
  intro fuel
  induction fuel with
  | zero =>
    intro listed ρ w a hs hf I
    have hn := c.n_le
    exact finish 0 listed hs hf I fun j hj => .inl (all_listed hf j (by omega))
  | succ fuel ih =>
    intro listed ρ w a hs hf I
    rcases Classical.em (∀ j, j < n → listed.getD j false = true ∨ freeM ops (clsOf ops []) j = true) with hall | hno
    · exact finish _ listed hs hf I hall
    · have ⟨j, hj⟩ := Classical.not_forall.1 hno
      have ⟨hjn, hj2⟩ := Classical.not_imp.1 hj
      have hjf : listed.getD j false = false := by
        cases hq : listed.getD j false with
        | false => rfl
        | true => exact absurd (.inl hq) hj2
      have hjm : freeM ops (clsOf ops []) j = true → False := fun e => hj2 (.inr e)
      obtain ⟨i0, i1, i2, i3⟩ := least (p := fun j => listed.getD j false) j j (Nat.le_refl _) hjf
      have hn := c.n_le
      refine ⟨fun e => ?_, fun i hi => ?_⟩
      · have := ready_of c.ord hs (by omega) i2 i3
        rw [e] at this
        cases this
      · obtain ⟨q1, q2, q3⟩ := ready_deps I.closed hi
        have hin : i < n := by
          rcases Nat.lt_or_ge i n with h1 | h1
          · exact h1
          · exfalso
            rcases h0 i h1 q1 j (by omega) with h2 | h2
            · have := q3 j h2
              rw [hjf] at this; cases this
            · exact hjm h2.2
        have his : i < listed.size := by omega
        have hif : listed.getD i false = false := by rw [← getD_both his]; exact q2
        exact c.op I hin q3 hif (set_listed his) fun ρ' a' w' J => ih _ (by simpa using hs) (by have := count_listed his q2; omega) J
theorem evDraw_goes {call : CallF} {H' : Heap} (hT : TabOk P T) (hcall : CallOk P call) (hm : P.follows .mixedOrders = true) {ops : Array Oper} {id : Nat} {Q : Exit → Act → World → Prop} {tm tm' : List V} (h : evDraw T call ops.toList tm H = some (tm', H')) (ht : TRel ρ H tm a.tmps) (hH : HRel ρ H w)
    (hQ : ∀ a' ρ' w', TRel ρ' H' tm' a'.tmps → a'.defers = a.defers → Step ρ H w ρ' H' w' → Q .normal a' w') : (Code.region id ops true).wp P Q a w := by
  refine wp_region_any hm ?_
  have hHd : HRel ρ H { w with drawn := w.drawn + 1 } := ⟨fun id b hb => (hH.blk id b hb).keep (Nat.le_refl _) fun _ _ _ => rfl, hH.dis⟩
  have hsd : Step ρ H w ρ H { w with drawn := w.drawn + 1 } := ⟨hHd, fun _ _ _ => rfl, fun id b hb => ⟨b, hb, Nat.le_refl _, fun _ => rfl⟩, ⟨rfl, rfl, rfl, Nat.le_refl _, fun _ _ _ => rfl⟩, fun id b g hb ho => .inr ⟨b, hb, ho⟩⟩
  unfold evDraw at h
  obtain ⟨hb, h⟩ := bif_some h
  simp only [Bool.and_eq_true] at hb
  obtain ⟨⟨hb1, _⟩, hb3⟩ := hb
  obtain ⟨hn, htail⟩ := tailX_spec (ops := ops.toList) (clsOf ops.toList [])
  split at h
  · rename_i r hr
    rw [appL_eq, dropL_eq] at h
    obtain ⟨R, r1, r2, r3⟩ := evAny_chain _ _ _ _ hr
    have hlen : (ops.toList.take (tailX ops.toList (clsOf ops.toList []))).length = tailX ops.toList (clsOf ops.toList []) := by rw [List.length_take]; omega
    rw [hlen] at r2
    have steps : ∀ i o, i < tailX ops.toList (clsOf ops.toList []) → ops.toList[i]? = some o → stepR T call ops.toList H (clsOf ops.toList []) i o (R i) = some (R (i + 1)) := fun i o hi ho => by
      have := r3 i o (by rw [List.getElem?_take_of_lt hi]; exact ho)
      rwa [Nat.zero_add] at this
    have c : Ctx P T call ops.toList H tm (tailX ops.toList (clsOf ops.toList [])) R := by
      refine ⟨hT, hcall, ordered_of hb3 hb1, hn, ⟨by rw [r1]; exact ⟨rfl, rfl, rfl⟩, fun i hi => ?_⟩, by rw [r1], steps⟩
      have hi' : i < ops.toList.length := by omega
      exact stepR_grown (steps i ops.toList[i] hi (by simp))
    rw [← r2] at h
    refine heads_goes (ρ := ρ) (a0 := a) c hHd htail h (fun a' ρ' w' t' d' s' => hQ a' ρ' w' t' d' (hsd.trans s')) ops.size (Array.replicate ops.size false) (by simp) (by simp) ?_
    have hfalse : ∀ j, (Array.replicate ops.size false).getD j false = false := fun j => by
      cases hq : (Array.replicate ops.size false).getD j false with
      | false => rfl
      | true =>
        have := listed_size hq
        simp at this
        simp [this] at hq
    have no : ∀ {j : Nat} {p : Prop}, (Array.replicate ops.size false).getD j false = true → p := fun h => by rw [hfalse] at h; cases h
    exact ⟨fun i hi => no hi, fun i hi => no hi, .refl, hHd.blk, fun id b g hb ho => Occ.lt (hHd.blk id b hb) ho, .refl _ _, fun x y b _ hy => no hy, fun x x' y y' b b' g _ _ _ hy => no hy, ht.len, fun k hk => no hk, fun t v hv _ => ht.val t v hv, rfl⟩
  · cases h
end
end Go.Proofs.Ytbfepedjnlcgkaa.Pe
