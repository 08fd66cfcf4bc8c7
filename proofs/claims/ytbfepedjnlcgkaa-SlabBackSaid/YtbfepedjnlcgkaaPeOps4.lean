/- A plain reading of the model's code: what makes memory, and what writes it. -/
import Derived.Test.YtbfepedjnlcgkaaPeOps3
import Derived.Laws.CopyRow
import Derived.Laws.MakeOwn
import Derived.Great.BuildSlice
set_option linter.unusedVariables false
namespace Go.Proofs.Ytbfepedjnlcgkaa.Pe
open Go.RowKit
open Go.Proofs.Ytbfepedjnlcgkaa.B (run_append_keep own_prefix lt_of_blk add_at)
section
variable {P : Program} {T : Tys} {t : TypeId} {ti : TI} {ρ : Ren} {H : Heap} {w w' : World} {a : Act}
/-- A renaming turned at one block. -/
def turn (ρ : Ren) (n : Nat) (rv : Nat → Value) : Ren := fun id k => if id = n then rv k else ρ id k
theorem turn_same (ρ : Ren) (n : Nat) (rv : Nat → Value) (k : Nat) : turn ρ n rv n k = rv k := by simp [turn]
theorem turn_other (ρ : Ren) (n : Nat) (rv : Nat → Value) {id : Nat} (h : id ≠ n) (k : Nat) : turn ρ n rv id k = ρ id k := by simp [turn, h]
theorem push_later (rv : Nat → Value) (b : Bk) : Later ρ H (turn ρ H.length rv) (H ++ [b]) := by
  refine ⟨fun id k ⟨b', hb, _⟩ => turn_other _ _ _ (fun e => ?_) k, fun id k ⟨b', hb, hk⟩ => ⟨b', ?_, hk⟩⟩
  · have := (List.getElem?_eq_some_iff.1 hb).1
    omega
  · rw [List.getElem?_append_left (List.getElem?_eq_some_iff.1 hb).1]
    exact hb
theorem get_push {b b' : Bk} {id : Nat} (h : (H ++ [b])[id]? = some b') : (H[id]? = some b' ∧ id ≠ H.length) ∨ (id = H.length ∧ b' = b) := by
  by_cases hi : id < H.length
  · rw [List.getElem?_append_left hi] at h
    exact .inl ⟨h, by omega⟩
  · have h1 := (List.getElem?_eq_some_iff.1 h).1
    have : id = H.length := by simp at h1; omega
    subst this
    simp at h
    exact .inr ⟨rfl, h.symm⟩
/-- A new block. -/
theorem step_push {b : Bk} {rv : Nat → Value} (hH : HRel ρ H w) (hB : Below w.heap.size w w') (hb : BRel (turn ρ H.length rv) (H ++ [b]) H.length b w') (ho : ∀ g, Occ (turn ρ H.length rv) H.length b g → w.heap.size ≤ g) : Step ρ H w (turn ρ H.length rv) (H ++ [b]) w' := by
  have hl := push_later (ρ := ρ) (H := H) rv b
  have old : ∀ (id : Nat) b', H[id]? = some b' → BRel (turn ρ H.length rv) (H ++ [b]) id b' w' := fun id b' h =>
    ((hH.blk id b' h).keep hB.size (fun g hg _ => hB.block g hg)).later h hl
  have occ : ∀ (id : Nat) b' g, H[id]? = some b' → Occ (turn ρ H.length rv) id b' g → Occ ρ id b' g ∧ g < w.heap.size := fun id b' g h h2 => by
    have h3 := (Occ.later h hl).1 h2
    exact ⟨h3, Occ.lt (hH.blk id b' h) h3⟩
  refine ⟨⟨fun id b' h => ?_, fun i j bi bj g hij hi hj hw h1 h2 => ?_⟩, hl.agree, fun id b' h => ⟨b', ?_, Nat.le_refl _, fun _ => rfl⟩, ⟨hB.os, hB.tape, hB.output, hB.size, fun g hg _ => hB.block g hg⟩, fun id b' g h h1 => ?_⟩
  · rcases get_push h with ⟨h, _⟩ | ⟨rfl, rfl⟩
    · exact old id b' h
    · exact hb
  · rcases get_push hi with ⟨ki, _⟩ | ⟨ei, fi⟩ <;> rcases get_push hj with ⟨kj, _⟩ | ⟨ej, fj⟩
    · exact hH.dis i j bi bj g hij ki kj hw (occ i bi g ki h1).1 (occ j bj g kj h2).1
    · subst ej; subst fj; have := (occ i bi g ki h1).2; have := ho g h2; omega
    · subst ei; subst fi; have := (occ j bj g kj h2).2; have := ho g h1; omega
    · exact hij (ei.trans ej.symm)
  · rw [List.getElem?_append_left (List.getElem?_eq_some_iff.1 h).1]; exact h
  · rcases get_push h with ⟨h, _⟩ | ⟨rfl, rfl⟩
    · exact .inr ⟨b', h, (occ id b' g h h1).1⟩
    · exact .inl (ho g h1)
theorem get_set {b1 b' : Bk} {id i : Nat} (h : (H.set id b1)[i]? = some b') : (H[i]? = some b' ∧ i ≠ id) ∨ (i = id ∧ b' = b1 ∧ id < H.length) := by
  rw [List.getElem?_set] at h
  split at h
  · rename_i e
    split at h
    · cases h; exact .inr ⟨e.symm, rfl, by assumption⟩
    · cases h
  · rename_i e
    exact .inl ⟨h, fun e' => e e'.symm⟩
/-- One block turned. -/
theorem step_set {b0 b1 : Bk} {id : Nat} {rv : Nat → Value} (hH : HRel ρ H w) (h0 : H[id]? = some b0) (hw0 : b0.wr = true) (hgb : b0.gb ≤ b1.gb) (hrv : ∀ k, k < b0.gb → rv k = ρ id k)
    (os : w'.os = w.os) (tp : w'.tape = w.tape) (out : w'.output = w.output) (sz : w.heap.size ≤ w'.heap.size) (hk : ∀ g, g < w.heap.size → ¬ Occ ρ id b0 g → w'.heap[g]? = w.heap[g]?)
    (hb : BRel (turn ρ id rv) (H.set id b1) id b1 w') (ho : ∀ g, Occ (turn ρ id rv) id b1 g → w.heap.size ≤ g ∨ Occ ρ id b0 g) : Step ρ H w (turn ρ id rv) (H.set id b1) w' := by
  have hlt : id < H.length := (List.getElem?_eq_some_iff.1 h0).1
  have hself : (H.set id b1)[id]? = some b1 := by simp [hlt]
  have hl : Later ρ H (turn ρ id rv) (H.set id b1) := by
    refine ⟨fun i k ⟨b, kb, kk⟩ => ?_, fun i k ⟨b, kb, kk⟩ => ?_⟩
    · by_cases e : i = id
      · subst e
        rw [h0] at kb; cases kb
        rw [turn_same, hrv k kk]
      · exact turn_other _ _ _ e k
    · by_cases e : i = id
      · subst e
        rw [h0] at kb; cases kb
        exact ⟨b1, hself, Nat.lt_of_lt_of_le kk hgb⟩
      · exact ⟨b, by rw [List.getElem?_set_ne (fun h => e h.symm)]; exact kb, kk⟩
  have occ : ∀ (i : Nat) b' g, i ≠ id → H[i]? = some b' → Occ (turn ρ id rv) i b' g → Occ ρ i b' g ∧ g < w.heap.size := fun i b' g hi h h2 => by
    have h3 := (Occ.later h hl).1 h2
    exact ⟨h3, Occ.lt (hH.blk i b' h) h3⟩
  have old : ∀ (i : Nat) b', i ≠ id → H[i]? = some b' → BRel (turn ρ id rv) (H.set id b1) i b' w' := fun i b' hi h =>
    ((hH.blk i b' h).keep sz (fun g hg h3 => hk g hg (fun h4 => hH.dis id i b0 b' g (fun e => hi e.symm) h0 h hw0 h4 h3))).later h hl
  refine ⟨⟨fun i b' h => ?_, fun i j bi bj g hij hi hj hw h1 h2 => ?_⟩, hl.agree, fun i b' h => ?_, ⟨os, tp, out, sz, fun g hg hn => hk g hg (hn id b0 h0 hw0)⟩, fun i b' g h h1 => ?_⟩
  · rcases get_set h with ⟨h, hi⟩ | ⟨rfl, rfl, _⟩
    · exact old i b' hi h
    · exact hb
  · rcases get_set hi with ⟨ki, ni⟩ | ⟨ei, fi, _⟩ <;> rcases get_set hj with ⟨kj, nj⟩ | ⟨ej, fj, _⟩
    · exact hH.dis i j bi bj g hij ki kj hw (occ i bi g ni ki h1).1 (occ j bj g nj kj h2).1
    · subst ej; subst fj
      have h3 := occ i bi g ni ki h1
      rcases ho g h2 with h4 | h4
      · omega
      · exact hH.dis i j bi b0 g hij ki h0 hw h3.1 h4
    · subst ei; subst fi
      have h3 := occ j bj g nj kj h2
      rcases ho g h1 with h4 | h4
      · omega
      · exact hH.dis i j b0 bj g hij h0 kj hw0 h4 h3.1
    · exact hij (ei.trans ej.symm)
  · by_cases e : i = id
    · subst e
      rw [h0] at h; cases h
      exact ⟨b1, hself, hgb, fun h => by rw [hw0] at h; cases h⟩
    · exact ⟨b', by rw [List.getElem?_set_ne (fun h => e h.symm)]; exact h, Nat.le_refl _, fun _ => rfl⟩
  · rcases get_set h with ⟨h, hi⟩ | ⟨rfl, rfl, _⟩
    · exact .inr ⟨b', h, (occ i b' g hi h h1).1⟩
    · rcases ho g h1 with h4 | h4
      · exact .inl h4
      · exact .inr ⟨b0, h0, h4⟩
theorem turn_self (ρ : Ren) (id : Nat) : turn ρ id (ρ id) = ρ := by
  funext i k
  simp only [turn]
  split
  · rename_i e; rw [e]
  · rfl
/-! ### new variables and rows -/
theorem Gb_push (b : Bk) (k : Nat) (hk : k < b.gb) : Gb (H ++ [b]) H.length k := ⟨b, by simp, hk⟩
theorem alloc_var {cs : List C} {vs : Array Value} {ty : TypeId} {m : Nat} (hH : HRel ρ H w) (hm : cs.length = m) (hc : Cels ρ H cs vs.toList) :
    ∃ ρ', VRel ρ' (appL H [.var true m cs]) (.c (.p H.length 0)) (.pointer (some ⟨w.heap.size, 0, none⟩)) ∧ Step ρ H w ρ' (appL H [.var true m cs]) (w.alloc (.cells vs ty)) := by
  rw [appL_eq]
  refine ⟨turn ρ H.length (fun _ => .pointer (some ⟨w.heap.size, 0, none⟩)), ⟨Gb_push _ _ Nat.zero_lt_one, ⟨w.heap.size, 0, none⟩, turn_same _ _ _ _, by rw [add_zero]⟩, step_push hH (B.b1 w _) ?_ ?_⟩
  · exact ⟨hm, w.heap.size, ty, vs, turn_same _ _ _ _, heap_alloc_new w _, hc.later (push_later _ _)⟩
  · rintro g ⟨o, h⟩
    rw [turn_same] at h
    injection h with h; injection h with h; injection h with h
    omega
theorem own_new {vs : Array Value} {n sz : Nat} {e : TypeId} (hn : n ≤ 140737488355328) (hs : vs.size = n * sz) : (w.alloc (.cells vs e)).ownsRow 0 e sz (.slice (some ⟨w.heap.size, 0, none⟩) n n) n vs.toList := by
  refine ⟨by simpa using hs, .inr ⟨w.heap.size, n, vs, rfl, Nat.zero_le _, heap_alloc_new w _, Nat.le_refl _, by simp only [maxLen]; omega, hs, ?_⟩⟩
  rw [List.take_of_length_le (by simp; omega)]
/-- A new row, all of it known. -/
theorem alloc_row {cs : List C} {vs : List Value} {v : Value} {n sz : Nat} {e : TypeId} (hH : HRel ρ H w) (hB : Below w.heap.size w w') (hsz : 0 < sz) (hn : n ≤ 140737488355328) (hl : cs.length = n * sz) (hc : Cels ρ H cs vs) (ho : w'.ownsRow 0 e sz v n vs) (hv : ∀ g, v.ownBlock = some g → w.heap.size ≤ g) :
    ∃ ρ', VRel ρ' (appL H [.row true cs n n sz e]) (.c (.sl H.length 0 n n)) v ∧ Step ρ H w ρ' (appL H [.row true cs n n sz e]) w' := by
  rw [appL_eq]
  refine ⟨turn ρ H.length (fun _ => v), ⟨Gb_push _ _ (Nat.lt_succ_self _), Nat.le_refl _, ?_⟩, step_push hH hB ?_ ?_⟩
  · rcases ho.2 with ⟨rfl, h0⟩ | ⟨g, cap, cur, rfl, _, _, h1, _⟩
    · subst h0
      exact ⟨none, 0, rfl, Nat.le_refl _, fun _ _ => by rw [turn_same], fun h => by omega⟩
    · exact ⟨_, cap, rfl, h1, fun _ _ => by rw [turn_same], fun _ => ⟨_, _, _, turn_same _ _ _ _, by rw [add_zero]⟩⟩
  · refine ⟨hsz, hl, ⟨hn, Nat.le_refl _⟩, fun k h1 h2 => ?_⟩
    have : k = n := by omega
    subst this
    refine ⟨vs, ?_, by rw [turn_same]; exact ho⟩
    rw [← hl, List.take_length]
    exact hc.later (push_later _ _)
  · rintro g ⟨k, _, _, h⟩
    rw [turn_same] at h
    exact hv g h
theorem many_eq (n : Nat) (z : List C) : many n z = (List.replicate n z).flatten := by
  induction n with
  | zero => rfl
  | succ n ih =>
    show appL z (many n z) = _
    rw [appL_eq, ih, List.replicate_succ, List.flatten_cons]
theorem flatten_get {α : Type} (z : List α) : ∀ (n i : Nat), i < n * z.length → (List.replicate n z).flatten[i]? = z[i % z.length]?
  | 0, i, h => by omega
  | n + 1, i, h => by
    rw [List.replicate_succ, List.flatten_cons]
    by_cases hi : i < z.length
    · rw [List.getElem?_append_left hi, Nat.mod_eq_of_lt hi]
    · rw [List.getElem?_append_right (by omega), flatten_get z n (i - z.length) (by rw [Nat.succ_mul] at h; omega), ← Nat.mod_eq_sub_mod (by omega)]
theorem many_rel {z : List C} {vs : Array Value} {n : Nat} (h : Cels ρ H z vs.toList) (hz : 0 < z.length) : Cels ρ H (many n z) ((Array.range (n * z.length)).map (vs[· % vs.size]!)).toList := by
  have hs : vs.size = z.length := by have := h.1; simpa using this.symm
  rw [many_eq]
  refine ⟨by simp, fun i x y hx hy => ?_⟩
  have hi : i < n * z.length := by
    have := (List.getElem?_eq_some_iff.1 hx).1
    simpa using this
  rw [flatten_get z n i hi] at hx
  have hm : i % z.length < z.length := Nat.mod_lt _ hz
  simp only [Array.toList_map, Array.toList_range, List.getElem?_map, List.getElem?_range hi, Option.map_some, Option.some.injEq] at hy
  subst hy
  refine h.2 (i % z.length) x _ hx ?_
  rw [hs, getElem!_pos vs (i % z.length) (by omega)]
  simp [hs, hm]
theorem alloc_rel {r : V × Heap} (hT : TabOk P T) (hH : HRel ρ H w) (h : (match tyAt T t with
    | some ti => some (V.c (.p H.length 0), appL H [.var true ti.size ti.zero])
    | none => none) = some r) : ∃ cv ρ' w', (Instr.alloc t true (.tuple #[])).run P w = .ok cv w' ∧ VRel ρ' r.2 r.1 cv ∧ Step ρ H w ρ' r.2 w' := by
  split at h
  · rename_i ti hti
    cases h
    obtain ⟨i, z, h1, h2, h3, h4, h5, h6⟩ := (hT _ _ hti).info
    obtain ⟨ρ', h7, h8⟩ := alloc_var (ty := t) hH h6 (cellsOf_rel h5)
    exact ⟨_, ρ', _, by simp [Instr.alloc, zeroValue, typeInfo, h1, h4, newVar, newRow], h7, h8⟩
  · cases h
theorem box_rel {r : V × Heap} {x : V} {u : Value} (hH : HRel ρ H w) (hx : VRel ρ H x u) (h : (match x.cells with
    | some (n, cs) => some (V.c (.p H.length 0), appL H [.var true n cs])
    | none => none) = some r) : ∃ cv ρ' w', (Instr.box t u).run P w = .ok cv w' ∧ VRel ρ' r.2 r.1 cv ∧ Step ρ H w ρ' r.2 w' := by
  split at h
  · rename_i n cs hc
    cases h
    obtain ⟨h1, h2⟩ := cells_rel hc hx
    obtain ⟨ρ', h7, h8⟩ := alloc_var (ty := t) hH h1 h2
    exact ⟨_, ρ', _, by simp [Instr.box, newVar, newRow], h7, h8⟩
  · cases h
theorem vbuildSlice_rel {n : Nat} {ps : List (Nat × V)} {qs : Array (Nat × Value)} {r : V × Heap} (hT : TabOk P T) (hH : HRel ρ H w) (h : vbuildSlice T H t n ps = some r) (hq : All2 (fun (x : Nat × V) (y : Nat × Value) => x.1 = y.1 ∧ VRel ρ H x.2 y.2) ps qs.toList) :
    ∃ cv ρ' w', (Instr.buildSlice t n qs).run P w = .ok cv w' ∧ VRel ρ' r.2 r.1 cv ∧ Step ρ H w ρ' r.2 w' := by
  unfold vbuildSlice at h
  split at h
  · rename_i e s1 s2 s3 s4 hti
    have hu := (hT _ _ hti).kd
    simp only [kdOk] at hu
    split at h
    · rename_i ei hei
      obtain ⟨hc, h⟩ := bif_some h
      simp only [Bool.and_eq_true] at hc
      have c0 := ble_nat hc.1.1
      have c1 := ble_nat hc.1.2
      have c2 := ble_nat hc.2
      split at h
      · rename_i cs hf
        cases h
        obtain ⟨i, z, h1, h2, h3, h4, h5, h6⟩ := (hT _ _ hei).info
        have hz : Cels ρ H ei.zero z.cells.toList := cellsOf_rel h5
        have hmz := many_rel (n := n) hz (by omega)
        have hml : (many n ei.zero).length = n * ei.size := by rw [many_eq]; simp [h6]
        obtain ⟨vs', g1, g2, g3⟩ := fill_rel (place' := fun j => some (j * ei.size, ei.size)) (fun j x hx => hx) hf hq hml hmz
        have hsz : vs'.size = n * ei.size := by have := g3.1; rw [g2] at this; simpa using this.symm
        have hpos : 0 < n * ei.size := Nat.mul_pos c0 c1
        have hn : n ≤ 140737488355328 := by
          have : n ≤ n * ei.size := Nat.le_mul_of_pos_right _ c1
          omega
        obtain ⟨ρ', k1, k2⟩ := alloc_row (e := e) (v := .slice (some ⟨w.heap.size, 0, none⟩) n n) hH (B.b1 w (.cells vs' e)) c1 hn g2 g3 (own_new hn hsz) (fun g hg => by simp [Value.ownBlock] at hg; omega)
        refine ⟨_, ρ', _, run_buildSlice w t e n qs vs' i z hu h1 h4 (by rw [h2]; omega) (by rw [h2]; omega) ?_, k1, k2⟩
        rw [h2, ← h6]
        rw [h6] at hmz ⊢
        rw [h6] at g1
        exact g1
      · cases h
    · cases h
  · cases h
theorem vmakeSlice_rel {l c : V} {u v : Value} {r : V × Heap} (hT : TabOk P T) (hH : HRel ρ H w) (h : vmakeSlice T H t l c = some r) (hl : VRel ρ H l u) (hc : VRel ρ H c v) :
    ∃ cv ρ' w', (Instr.makeSlice t u v).run P w = .ok cv w' ∧ VRel ρ' r.2 r.1 cv ∧ Step ρ H w ρ' r.2 w' := by
  unfold vmakeSlice at h
  split at h
  · rename_i e s1 s2 s3 s4 k1 l k2 c hti
    have hu := (hT _ _ hti).kd
    simp only [kdOk] at hu
    simp only [VRel, CRel] at hl hc
    subst hl; subst hc
    split at h
    · rename_i ei hei
      obtain ⟨hq, h⟩ := bif_some h
      cases h
      simp only [Bool.and_eq_true, eqI_eq, leI_eq, beq_iff_eq, decide_eq_true_eq] at hq
      obtain ⟨⟨⟨⟨rfl, q1⟩, q2⟩, q3⟩, q4⟩ := hq
      have q2 := ble_nat q2
      have q3 := ble_nat q3
      have q4 := ble_nat q4
      obtain ⟨i, z, h1, h2, h3, h4, h5, h6⟩ := (hT _ _ hei).info
      have hz : Cels ρ H ei.zero z.cells.toList := cellsOf_rel h5
      have hmz := many_rel (n := l.toNat) hz (by omega)
      have hml : (many l.toNat ei.zero).length = l.toNat * ei.size := by rw [many_eq]; simp [h6]
      have hn : l.toNat ≤ 140737488355328 := by
        have : l.toNat ≤ l.toNat * ei.bytes := Nat.le_mul_of_pos_right _ q4
        omega
      have hl2 : (l : Int) = (l.toNat : Int) := by omega
      have hb2 : (i.bytes : Int) * l ≤ 281474976710656 := by
        rw [hl2, h3, ← Int.natCast_mul, Nat.mul_comm]
        omega
      rw [h6] at hmz
      have hsz2 : (madeCells z.cells (l.toNat * i.size)).size = l.toNat * ei.size := by rw [size_madeCells, h2]
      obtain ⟨ρ', k3, k4⟩ := alloc_row (e := e) (v := .slice (some ⟨w.heap.size, 0, none⟩) l.toNat l.toNat) hH (B.b1 w (.cells (madeCells z.cells (l.toNat * i.size)) e)) q3 hn hml (by rw [h2]; exact hmz) (own_new hn hsz2) (fun g hg => by simp [Value.ownBlock] at hg; omega)
      exact ⟨_, ρ', _, run_make w t e i z hu h1 h4 k1 k2 l l q1 (Int.le_refl _) hb2 (by omega), k3, k4⟩
    · cases h
  · cases h
end
end Go.Proofs.Ytbfepedjnlcgkaa.Pe
