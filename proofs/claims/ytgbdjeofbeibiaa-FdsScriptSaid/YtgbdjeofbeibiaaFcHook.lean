/- FdsScript: walks over a table's iterator, as calls that are known by what lies in memory. -/
import Derived.Test.YtgbdjeofbeibiaaPeS
import Derived.Test.YtgbdjeofbeibiaaFcWalk
import Derived.Test.YtgbdjeofbeibiaaFcWalkS
import Derived.KernelRfl
set_option linter.unusedVariables false
namespace Go.Proofs.Ytgbdjeofbeibiaa.Pe
open Go.RowKit
set_option maxRecDepth 10000
/-! ### cells, and those of them that are open -/
def cellP (p : Bool × C) : List C := [.b p.1, p.2]
def cellsP (l : List (Bool × C)) : List C := l.flatMap cellP
theorem cellsP_len (l : List (Bool × C)) : (cellsP l).length = l.length * 2 := by
  induction l with
  | nil => rfl
  | cons p l ih => simp only [cellsP, List.flatMap_cons, List.length_append, List.length_cons, cellP, List.length_nil] at ih ⊢; omega
theorem cellsP_app (l m : List (Bool × C)) : cellsP (l ++ m) = cellsP l ++ cellsP m := by simp [cellsP]
theorem cellsP_at {l : List (Bool × C)} {i : Nat} {p : Bool × C} (h : l[i]? = some p) : ∃ R, (cellsP l).drop (i * 2) = cellP p ++ R := by
  have hlt := (List.getElem?_eq_some_iff.1 h).1
  have e : l = l.take i ++ p :: l.drop (i + 1) := by
    rw [← (List.getElem?_eq_some_iff.1 h).2, ← List.drop_eq_getElem_cons hlt, List.take_append_drop]
  refine ⟨cellsP (l.drop (i + 1)), ?_⟩
  have hl : (cellsP (l.take i)).length = i * 2 := by rw [cellsP_len, List.length_take]; omega
  conv => lhs; rw [e, cellsP_app]
  rw [← hl, List.drop_append_of_le_length (Nat.le_refl _), List.drop_length]
  simp [cellsP]
/-- The numbers that are held, and what each stands for. -/
def entL : Nat → List (Bool × C) → List (Nat × C)
  | _, [] => []
  | k, p :: l => if p.1 then (k, p.2) :: entL (k + 1) l else entL (k + 1) l
theorem entL_app : ∀ (l m : List (Bool × C)) (k : Nat), entL k (l ++ m) = entL k l ++ entL (k + l.length) m
  | [], m, k => by simp [entL]
  | p :: l, m, k => by
    simp only [List.cons_append, entL, List.length_cons]
    have e : k + (l.length + 1) = k + 1 + l.length := by omega
    split <;> simp [entL_app l m (k + 1), e]
def fdsC (l : List (Nat × C)) : List C := l.map fun p => C.i .i64 p.1
def valsC (l : List (Nat × C)) : List C := l.map (·.2)
/-! ### walks that tell what is wanted -/
/-- In memory: what an iterator captured; the cells; and two lists that are what it tells. -/
def WalkOk (V : C → Prop) (H : Heap) (id : Nat) (x y : C) : Prop := ∃ wr z l, getL H id = some (.var wr 1 [z]) ∧ l.length ≤ 1000000 ∧ (∀ p ∈ l, V p.2) ∧ rdSl H z 2 = some (l.length, cellsP l) ∧ rdSl H x 1 = some ((entL 0 l).length, fdsC (entL 0 l)) ∧ rdSl H y 1 = some ((entL 0 l).length, valsC (entL 0 l))
def VI (c : C) : Prop := ∃ n, c = .i .i64 n
def VS (c : C) : Prop := ∃ s, c = .s s
open Classical in
noncomputable def hk : FuncId → List V → Heap → Option V := fun f args H =>
  bif Nat.beq f 25 then (match args with
  | [.c (.fv g id), .c x, .c y, .c (.i .i64 _)] => if g = 39 ∧ WalkOk VI H id x y then some (.c (.b true)) else none
  | _ => none)
  else bif Nat.beq f 35 then (match args with
  | [.c (.fv g id), .c x, .c y, .c (.i .i64 _)] => if g = 42 ∧ WalkOk VS H id x y then some (.c (.b true)) else none
  | _ => none)
  else none
open Classical in
theorem hk_I {H : Heap} {id : Nat} {x y : C} {m : Int} (h : WalkOk VI H id x y) : hk 25 [.c (.fv 39 id), .c x, .c y, .c (.i .i64 m)] H = some (.c (.b true)) := by
  show (if 39 = 39 ∧ WalkOk VI H id x y then some (V.c (.b true)) else none) = _
  rw [if_pos ⟨rfl, h⟩]
open Classical in
theorem hk_S {H : Heap} {id : Nat} {x y : C} {m : Int} (h : WalkOk VS H id x y) : hk 35 [.c (.fv 42 id), .c x, .c y, .c (.i .i64 m)] H = some (.c (.b true)) := by
  show (if 42 = 42 ∧ WalkOk VS H id x y then some (V.c (.b true)) else none) = _
  rw [if_pos ⟨rfl, h⟩]
section
variable {ρ : Ren} {H : Heap} {w : World}
theorem lies_at {ad : Addr} {vs : List Value} (h : Lies w ad vs) (hn : 0 < vs.length) : ∃ b off, ad = ⟨b, off, none⟩ ∧ b < w.heap.size ∧ ∀ (j : Nat) u, vs[j]? = some u → w.cell? ⟨b, off + j, none⟩ = some u := by
  obtain ⟨b, off, sp⟩ := ad
  have h0 : w.cell? ⟨b, off, sp⟩ = some vs[0] := h 0 _ (List.getElem?_eq_getElem hn)
  have hs : sp = none := World.cell?_spot h0
  subst hs
  refine ⟨b, off, rfl, World.block_lt_of_cell? w _ h0, fun j u hu => ?_⟩
  have := h j u hu
  rw [Go.Proofs.Ytgbdjeofbeibiaa.B.add_at] at this
  exact this
theorem slice_at {x : C} {sz m : Nat} {cs : List C} {v : Value} (h : rdSl H x sz = some (m, cs)) (hz : 0 < sz) (hH : HRel ρ H w) (hv : CRel ρ H x v) :
    ∃ A c, v = .slice A m c ∧ (m = 0 ∨ ∃ b off, A = some ⟨b, off, none⟩ ∧ b < w.heap.size ∧ ∀ (j : Nat) cl, cs[j]? = some cl → ∃ u, CRel ρ H cl u ∧ w.cell? ⟨b, off + j, none⟩ = some u) := by
  obtain ⟨A, c, rfl, _, hl, hm⟩ := rdSl_rel h hH hv
  refine ⟨A, c, rfl, ?_⟩
  rcases hm with hm | ⟨hm, ad, vs, rfl, hc, hlie⟩
  · exact .inl hm
  · have hlv : vs.length = cs.length := hc.1.symm
    have hpos : 0 < m * sz := Nat.mul_pos hm hz
    obtain ⟨b, off, rfl, hb, hcell⟩ := lies_at hlie (by omega)
    refine .inr ⟨b, off, rfl, hb, fun j cl hj => ?_⟩
    have hjl := (List.getElem?_eq_some_iff.1 hj).1
    have hu : vs[j]? = some vs[j] := by simp [show j < vs.length by omega]
    exact ⟨vs[j], (hc.2 j _ _ hj hu).2, hcell j _ hu⟩
theorem cellsP_get {l : List (Bool × C)} {j : Nat} {p : Bool × C} (h : l[j]? = some p) : (cellsP l)[j * 2]? = some (.b p.1) ∧ (cellsP l)[j * 2 + 1]? = some p.2 := by
  obtain ⟨R, hR⟩ := cellsP_at h
  have e : ∀ k, (cellsP l)[j * 2 + k]? = (cellP p ++ R)[k]? := fun k => by rw [← hR, List.getElem?_drop]
  refine ⟨?_, ?_⟩
  · have := e 0; rw [Nat.add_zero] at this; rw [this]; rfl
  · rw [e 1]; rfl
/-- The same, by places. -/
theorem ents_entL {α : Type} (g : C → α) (l : List (Bool × C)) (d : Bool × C) : ∀ k, k ≤ l.length → Fc.ents (fun j => (l[j]?.getD d).1) (fun j => g (l[j]?.getD d).2) k = (entL 0 (l.take k)).map fun p => (p.1, g p.2)
  | 0, _ => by simp [Fc.ents, entL]
  | k + 1, h => by
    have hk : k < l.length := by omega
    have ih := ents_entL g l d k (by omega)
    rw [List.take_add_one, List.getElem?_eq_getElem hk, Option.toList_some, entL_app, List.map_append, ← ih]
    show (if (l[k]?.getD d).1 then _ else _) = _
    have hl : (l.take k).length = k := by rw [List.length_take]; omega
    simp only [List.getElem?_eq_getElem hk, Option.getD_some, hl, Nat.zero_add, entL]
    cases (l[k]).1 <;> simp
theorem entsS_eq {α : Type} (bs : Nat → Bool) (vs : Nat → α) : ∀ k, Fs.ents bs vs k = Fc.ents bs vs k
  | 0 => rfl
  | k + 1 => by
    show (if bs k then Fs.ents bs vs k ++ [(k, vs k)] else Fs.ents bs vs k) = (if bs k then Fc.ents bs vs k ++ [(k, vs k)] else Fc.ents bs vs k)
    rw [entsS_eq bs vs k]
def getI : C → Int
  | .i _ n => n
  | _ => 0
def getS : C → ByteArray
  | .s l => ⟨l.toArray⟩
  | _ => ⟨#[]⟩
theorem walk_parts {V : C → Prop} {id : Nat} {x y : C} {v0 v1 v2 : Value} {g : Nat} (h : WalkOk V H id x y) (hH : HRel ρ H w) (r0 : CRel ρ H (.fv g id) v0) (r1 : CRel ρ H x v1) (r2 : CRel ρ H y v2) :
    ∃ (l : List (Bool × C)) (Bn cap : Nat) (A A1 A2 : Option Addr) (c1 c2 : Nat), l.length ≤ 1000000 ∧ (∀ p ∈ l, V p.2) ∧ v0 = .func (.func g) #[] #[.pointer (some ⟨Bn, 0, none⟩)] ∧ v1 = .slice A1 (entL 0 l).length c1 ∧ v2 = .slice A2 (entL 0 l).length c2 ∧ Bn < w.heap.size ∧ w.cell? ⟨Bn, 0, none⟩ = some (.slice A l.length cap) ∧
    (l.length = 0 ∨ ∃ b off, A = some ⟨b, off, none⟩ ∧ b < w.heap.size ∧ ∀ (j : Nat) p, l[j]? = some p → w.cell? ⟨b, off + j * 2, none⟩ = some (.bool p.1) ∧ ∃ u, CRel ρ H p.2 u ∧ w.cell? ⟨b, off + j * 2 + 1, none⟩ = some u) ∧
    ((entL 0 l).length = 0 ∨ ∃ b off, A1 = some ⟨b, off, none⟩ ∧ b < w.heap.size ∧ ∀ (j : Nat) p, (entL 0 l)[j]? = some p → w.cell? ⟨b, off + j, none⟩ = some (.int .i64 (p.1 : Int))) ∧
    ((entL 0 l).length = 0 ∨ ∃ b off, A2 = some ⟨b, off, none⟩ ∧ b < w.heap.size ∧ ∀ (j : Nat) p, (entL 0 l)[j]? = some p → ∃ u, CRel ρ H p.2 u ∧ w.cell? ⟨b, off + j, none⟩ = some u) := by
  obtain ⟨wr, z, l, hg, hl, hV, q0, q1, q2⟩ := h
  obtain ⟨_, ad, e1, rfl⟩ := r0
  rw [getL_eq] at hg
  obtain ⟨_, b, ty, cs, e2, e3, e4⟩ := hH.blk id _ hg
  rw [e1] at e2
  cases e2
  obtain ⟨u, hu, hcu⟩ : ∃ u, cs[0]? = some u ∧ CRel ρ H z u := by
    have hlen : (1 : Nat) = cs.toList.length := e4.1
    have h0 : cs.toList[0]? = some cs.toList[0] := by simp [← hlen]
    refine ⟨cs.toList[0], by rw [← Array.getElem?_toList]; exact h0, (e4.2 0 _ _ rfl h0).2⟩
  obtain ⟨A, cap, rfl, hA⟩ := slice_at q0 (by omega) hH hcu
  obtain ⟨A1, c1, rfl, hA1⟩ := slice_at q1 (by omega) hH r1
  obtain ⟨A2, c2, rfl, hA2⟩ := slice_at q2 (by omega) hH r2
  refine ⟨l, b, cap, A, A1, A2, c1, c2, hl, hV, rfl, rfl, rfl, (Array.getElem?_eq_some_iff.1 e3).1, by simp [World.cell?, e3, hu], ?_, ?_, ?_⟩
  · rcases hA with h | ⟨b, off, h1, h2, h3⟩
    · exact .inl h
    · refine .inr ⟨b, off, h1, h2, fun j p hj => ?_⟩
      obtain ⟨g1, g2⟩ := cellsP_get hj
      obtain ⟨u, k1, k2⟩ := h3 _ _ g1
      obtain ⟨u', k1', k2'⟩ := h3 _ _ g2
      have k1 : u = .bool p.1 := k1
      subst k1
      exact ⟨k2, u', k1', by rw [← Nat.add_assoc] at k2'; exact k2'⟩
  · rcases hA1 with h | ⟨b, off, h1, h2, h3⟩
    · exact .inl h
    · refine .inr ⟨b, off, h1, h2, fun j p hj => ?_⟩
      obtain ⟨u, k1, k2⟩ := h3 j (.i .i64 (p.1 : Int)) (by simp [fdsC, hj])
      have k1 : u = .int .i64 (p.1 : Int) := k1
      subst k1
      exact k2
  · rcases hA2 with h | ⟨b, off, h1, h2, h3⟩
    · exact .inl h
    · exact .inr ⟨b, off, h1, h2, fun j p hj => h3 j p.2 (by simp [valsC, hj])⟩
theorem entL_mem : ∀ {l : List (Bool × C)} {k : Nat} {p : Nat × C}, p ∈ entL k l → ∃ b, (b, p.2) ∈ l
  | [], _, p, h => by simp [entL] at h
  | q :: l, k, p, h => by
    unfold entL at h
    split at h
    · rcases List.mem_cons.1 h with rfl | h
      · exact ⟨q.1, by simp⟩
      · obtain ⟨b, hb⟩ := entL_mem h
        exact ⟨b, List.mem_cons_of_mem _ hb⟩
    · obtain ⟨b, hb⟩ := entL_mem h
      exact ⟨b, List.mem_cons_of_mem _ hb⟩
theorem hkI {id : Nat} {x y : C} {v0 v1 v2 : Value} {m : Int} (h : WalkOk VI H id x y) (hH : HRel ρ H w) (r0 : CRel ρ H (.fv 39 id) v0) (r1 : CRel ρ H x v1) (r2 : CRel ρ H y v2) :
    Calls Try.prog 25 #[v0, v1, v2, .int .i64 m] w fun e w' => e = .returned (.bool true) ∧ Below w.heap.size w w' := by
  obtain ⟨l, Bn, cap, A, A1, A2, c1, c2, hl, hV, rfl, rfl, rfl, hlt, hc, hI, h1, h2⟩ := walk_parts h hH r0 r1 r2
  have val : ∀ {c : C} {u : Value}, VI c → CRel ρ H c u → u = .int .i64 (getI c) := by
    rintro c u ⟨n, rfl⟩ hr
    exact hr
  have hE := ents_entL getI l (false, .np) l.length (Nat.le_refl _)
  rw [List.take_length] at hE
  have hlen : ((entL 0 l).map fun p => (p.1, getI p.2)).length = (entL 0 l).length := by simp
  rw [← hlen]
  have key : ∀ (j : Nat) (q : Nat × Int), ((entL 0 l).map fun p => (p.1, getI p.2))[j]? = some q → ∃ p, (entL 0 l)[j]? = some p ∧ q = (p.1, getI p.2) ∧ VI p.2 := fun j q hq => by
    rw [List.getElem?_map] at hq
    obtain ⟨p, h3, h4⟩ := Option.map_eq_some_iff.1 hq
    obtain ⟨b, hb⟩ := entL_mem (List.mem_of_getElem? h3)
    exact ⟨p, h3, h4.symm, hV _ hb⟩
  refine Fc.walk_calls Bn l.length cap A (fun j => (l[j]?.getD (false, .np)).1) (fun j => getI (l[j]?.getD (false, .np)).2) (by omega) w hlt hc ?_ _ hE.symm A1 A2 c1 c2 m ?_ ?_
  · rcases hI with hI | ⟨b, off, h3, h4, h5⟩
    · exact .inl hI
    · refine .inr ⟨b, off, h3, h4, fun j hj => ?_⟩
      have hg : l[j]? = some l[j] := List.getElem?_eq_getElem hj
      obtain ⟨k1, u, k2, k3⟩ := h5 j _ hg
      rw [hg]
      exact ⟨k1, by rw [k3, val (hV _ (List.getElem_mem hj)) k2]; rfl⟩
  · rcases h1 with h | ⟨b, off, h3, h4, h5⟩
    · exact .inl (by rw [hlen]; exact h)
    · refine .inr ⟨b, off, h3, h4, fun j q hq => ?_⟩
      obtain ⟨p, k1, rfl, _⟩ := key j q hq
      exact h5 j p k1
  · rcases h2 with h | ⟨b, off, h3, h4, h5⟩
    · exact .inl (by rw [hlen]; exact h)
    · refine .inr ⟨b, off, h3, h4, fun j q hq => ?_⟩
      obtain ⟨p, k1, rfl, k4⟩ := key j q hq
      obtain ⟨u, k5, k6⟩ := h5 j p k1
      rw [k6, val k4 k5]
theorem hkS {id : Nat} {x y : C} {v0 v1 v2 : Value} {m : Int} (h : WalkOk VS H id x y) (hH : HRel ρ H w) (r0 : CRel ρ H (.fv 42 id) v0) (r1 : CRel ρ H x v1) (r2 : CRel ρ H y v2) :
    Calls Try.prog 35 #[v0, v1, v2, .int .i64 m] w fun e w' => e = .returned (.bool true) ∧ Below w.heap.size w w' := by
  obtain ⟨l, Bn, cap, A, A1, A2, c1, c2, hl, hV, rfl, rfl, rfl, hlt, hc, hI, h1, h2⟩ := walk_parts h hH r0 r1 r2
  have val : ∀ {c : C} {u : Value}, VS c → CRel ρ H c u → u = .string (getS c) := by
    rintro c u ⟨n, rfl⟩ hr
    exact hr
  have hE := ents_entL getS l (false, .np) l.length (Nat.le_refl _)
  rw [List.take_length, ← entsS_eq] at hE
  have hlen : ((entL 0 l).map fun p => (p.1, getS p.2)).length = (entL 0 l).length := by simp
  rw [← hlen]
  have key : ∀ (j : Nat) (q : Nat × ByteArray), ((entL 0 l).map fun p => (p.1, getS p.2))[j]? = some q → ∃ p, (entL 0 l)[j]? = some p ∧ q = (p.1, getS p.2) ∧ VS p.2 := fun j q hq => by
    rw [List.getElem?_map] at hq
    obtain ⟨p, h3, h4⟩ := Option.map_eq_some_iff.1 hq
    obtain ⟨b, hb⟩ := entL_mem (List.mem_of_getElem? h3)
    exact ⟨p, h3, h4.symm, hV _ hb⟩
  refine Fs.walk_calls Bn l.length cap A (fun j => (l[j]?.getD (false, .np)).1) (fun j => getS (l[j]?.getD (false, .np)).2) (by omega) w hlt hc ?_ _ hE.symm A1 A2 c1 c2 m ?_ ?_
  · rcases hI with hI | ⟨b, off, h3, h4, h5⟩
    · exact .inl hI
    · refine .inr ⟨b, off, h3, h4, fun j hj => ?_⟩
      have hg : l[j]? = some l[j] := List.getElem?_eq_getElem hj
      obtain ⟨k1, u, k2, k3⟩ := h5 j _ hg
      rw [hg]
      exact ⟨k1, by rw [k3, val (hV _ (List.getElem_mem hj)) k2]; rfl⟩
  · rcases h1 with h | ⟨b, off, h3, h4, h5⟩
    · exact .inl (by rw [hlen]; exact h)
    · refine .inr ⟨b, off, h3, h4, fun j q hq => ?_⟩
      obtain ⟨p, k1, rfl, _⟩ := key j q hq
      exact h5 j p k1
  · rcases h2 with h | ⟨b, off, h3, h4, h5⟩
    · exact .inl (by rw [hlen]; exact h)
    · refine .inr ⟨b, off, h3, h4, fun j q hq => ?_⟩
      obtain ⟨p, k1, rfl, k4⟩ := key j q hq
      obtain ⟨u, k5, k6⟩ := h5 j p k1
      rw [k6, val k4 k5]
end
theorem hk_ok : HookOk Try.prog hk := by
  intro call hc f args H v H' h
  unfold hookW at h
  split at h
  · rename_i v' hv
    cases h
    unfold hk at hv
    cases hb : Nat.beq f 25 with
    | true =>
      rw [hb, cond_true] at hv
      have := beq_nat hb
      subst this
      split at hv
      · rename_i g id x y m
        split at hv
        · rename_i hw
          cases hv
          obtain ⟨rfl, hw⟩ := hw
          refine ⟨⟨_, Try.func25, by kernel_rfl, rfl⟩, fun ρ w cargs hH ha => ?_⟩
          obtain ⟨l⟩ := cargs
          obtain ⟨hlen, hrel⟩ := ha
          match l, hlen, hrel with
          | [v0, v1, v2, v3], _, hrel =>
            have r0 := hrel 0 _ _ rfl rfl
            have r1 := hrel 1 _ _ rfl rfl
            have r2 := hrel 2 _ _ rfl rfl
            have r3 : v3 = .int .i64 m := hrel 3 _ _ rfl rfl
            subst r3
            refine (hkI hw hH r0 r1 r2).mono ?_
            rintro e w' ⟨rfl, hB⟩
            exact ⟨_, ρ, rfl, rfl, below_step hH hB⟩
        · cases hv
      · cases hv
    | false =>
      rw [hb, cond_false] at hv
      obtain ⟨hb2, hv2⟩ := bif_some hv
      clear hv
      have := beq_nat hb2
      subst this
      split at hv2
      · rename_i g id x y m
        split at hv2
        · rename_i hw
          cases hv2
          obtain ⟨rfl, hw⟩ := hw
          refine ⟨⟨_, Try.func35, by kernel_rfl, rfl⟩, fun ρ w cargs hH ha => ?_⟩
          obtain ⟨l⟩ := cargs
          obtain ⟨hlen, hrel⟩ := ha
          match l, hlen, hrel with
          | [v0, v1, v2, v3], _, hrel =>
            have r0 := hrel 0 _ _ rfl rfl
            have r1 := hrel 1 _ _ rfl rfl
            have r2 := hrel 2 _ _ rfl rfl
            have r3 : v3 = .int .i64 m := hrel 3 _ _ rfl rfl
            subst r3
            refine (hkS hw hH r0 r1 r2).mono ?_
            rintro e w' ⟨rfl, hB⟩
            exact ⟨_, ρ, rfl, rfl, below_step hH hB⟩
        · cases hv2
      · cases hv2
  · exact hc f args H v H' h
/-! ### in other memory -/
theorem rdSl_app {H L : Heap} {x : C} {sz n : Nat} {cs : List C} (h : rdSl H x sz = some (n, cs)) : rdSl (appL H L) x sz = some (n, cs) := by
  have key : ∀ (a : C) (len : Nat), (match rdAt H a (len * sz) with
      | some cs => some (len, cs)
      | none => none) = some (n, cs) → (match rdAt (appL H L) a (len * sz) with
      | some cs => some (len, cs)
      | none => none) = some (n, cs) := fun a len h => by
    split at h
    · rename_i c hc
      rw [rdAt_app hc]; exact h
    · cases h
  cases x with
  | ns => exact h
  | sl id off len gen =>
    simp only [rdSl] at h ⊢
    cases hb : Nat.beq len 0 with
    | true => rw [hb] at h; exact h
    | false => rw [hb] at h; exact key _ _ h
  | va id off len cap =>
    simp only [rdSl] at h ⊢
    cases hb : Nat.beq len 0 with
    | true => rw [hb] at h; exact h
    | false => rw [hb] at h; exact key _ _ h
  | vr id off len cap gen =>
    simp only [rdSl] at h ⊢
    cases hb : Nat.beq len 0 with
    | true => rw [hb] at h; exact h
    | false => rw [hb] at h; exact key _ _ h
  | _ => simp only [rdSl, reduceCtorEq] at h
theorem rdSl_frz {H : Heap} {x : C} {sz n : Nat} {cs : List C} (h : rdSl H x sz = some (n, cs)) : rdSl (freeze H) x sz = some (n, cs) := by
  have key : ∀ (a : C) (len : Nat), (match rdAt H a (len * sz) with
      | some cs => some (len, cs)
      | none => none) = some (n, cs) → (match rdAt (freeze H) a (len * sz) with
      | some cs => some (len, cs)
      | none => none) = some (n, cs) := fun a len h => by
    split at h
    · rename_i c hc
      rw [rdAt_frz hc]; exact h
    · cases h
  cases x with
  | ns => exact h
  | sl id off len gen =>
    simp only [rdSl] at h ⊢
    cases hb : Nat.beq len 0 with
    | true => rw [hb] at h; exact h
    | false => rw [hb] at h; exact key _ _ h
  | va id off len cap =>
    simp only [rdSl] at h ⊢
    cases hb : Nat.beq len 0 with
    | true => rw [hb] at h; exact h
    | false => rw [hb] at h; exact key _ _ h
  | vr id off len cap gen =>
    simp only [rdSl] at h ⊢
    cases hb : Nat.beq len 0 with
    | true => rw [hb] at h; exact h
    | false => rw [hb] at h; exact key _ _ h
  | _ => simp only [rdSl, reduceCtorEq] at h
theorem WalkOk.app {V : C → Prop} {H L : Heap} {id : Nat} {x y : C} (h : WalkOk V H id x y) : WalkOk V (appL H L) id x y := by
  obtain ⟨wr, z, l, h1, h2, h3, h4, h5, h6⟩ := h
  exact ⟨wr, z, l, getL_base h1, h2, h3, rdSl_app h4, rdSl_app h5, rdSl_app h6⟩
theorem WalkOk.frz {V : C → Prop} {H : Heap} {id : Nat} {x y : C} (h : WalkOk V H id x y) : WalkOk V (freeze H) id x y := by
  obtain ⟨wr, z, l, h1, h2, h3, h4, h5, h6⟩ := h
  exact ⟨false, z, l, getL_frz h1, h2, h3, rdSl_frz h4, rdSl_frz h5, rdSl_frz h6⟩
end Go.Proofs.Ytgbdjeofbeibiaa.Pe
