/- A plain reading of the model's code: sets of numbers. -/
import Derived.Test.YtgbdjeofbeibiaaPeOps7
import Derived.Maps.Keyed
import Derived.Carry
set_option linter.unusedVariables false
namespace Go.Proofs.Ytgbdjeofbeibiaa.Pe
open Go.RowKit
open Go.Proofs.Ytgbdjeofbeibiaa.B (b1 lt_of_blk)
section
variable {P : Program} {T : Tys} {t : TypeId} {ti : TI} {ρ ρ' : Ren} {H H' : Heap} {w w' : World} {a : Act}
theorem ctor_eq {j k : IntKind} (h : Nat.beq j.ctorIdx k.ctorIdx = true) : j = k := by
  have := beq_nat h
  cases j <;> cases k <;> first | rfl | cases this
theorem mapHas_cons {q : IntKind} {n : Int} {x : IntKind × Int} {l : List (IntKind × Int)} : mapHas q n (x :: l) = (bif Nat.beq x.1.ctorIdx q.ctorIdx then (bif eqI n x.2 then some true else mapHas q n l) else none) := rfl
/-- What is found in such a set. -/
theorem find_set {q0 q : IntKind} {n : Int} : ∀ (es : List MapEntry) (ks : List (IntKind × Int)) (i : Nat) (b : Bool), es.map (·.key) = ks.map (fun x => Value.int x.1 x.2) → mapHas q n ks = some b →
    (b = false ∧ Instr.findNow (.int q0) (.int q n) es i = some none) ∨ (b = true ∧ ∃ j e, Instr.findNow (.int q0) (.int q n) es i = some (some (i + j, e.val)) ∧ es[j]? = some e ∧ e.key = .int q n)
  | [], [], i, b, _, h => by cases h; exact .inl ⟨rfl, rfl⟩
  | [], _ :: _, _, _, h, _ => by simp at h
  | _ :: _, [], _, _, h, _ => by simp at h
  | e :: es, x :: ks, i, b, h, hm => by
    simp only [List.map_cons, List.cons.injEq] at h
    obtain ⟨hk, ht⟩ := h
    rw [mapHas_cons] at hm
    cases hc : Nat.beq x.1.ctorIdx q.ctorIdx with
    | false => rw [hc] at hm; cases hm
    | true =>
      rw [hc] at hm
      have hq := ctor_eq hc
      simp only [cond_true, eqI_eq] at hm
      by_cases hn : n = x.2
      · have : (n == x.2) = true := by simp [hn]
        rw [this] at hm
        cases hm
        refine .inr ⟨rfl, 0, e, ?_, rfl, by rw [hk, hq, hn]⟩
        simp [Instr.findNow, Instr.sameNow, hk, hq, hn]
      · have : (n == x.2) = false := by simp [hn]
        rw [this] at hm
        have hr : Instr.findNow (.int q0) (.int q n) (e :: es) i = Instr.findNow (.int q0) (.int q n) es (i + 1) := by
          simp [Instr.findNow, Instr.sameNow, hk, hq, this]
        rcases find_set es ks (i + 1) b ht hm with ⟨h1, h2⟩ | ⟨h1, j, e', h2, h3, h4⟩
        · exact .inl ⟨h1, hr.trans h2⟩
        · exact .inr ⟨h1, j + 1, e', by rw [hr, h2]; simp; omega, by simpa using h3, h4⟩
theorem mapKd_ok {q : IntKind} (hT : TabOk P T) (h : mapKd T t = some q) : ∃ k e, P.underlying t = some (.map k e) ∧ P.underlying k = some (.int q) ∧ ∀ w, (zeroValue e).run P w = .ok (.agg #[]) w := by
  unfold mapKd at h
  split at h
  · rename_i k e s1 s2 s3 s4 hti
    split at h
    · rename_i q' r1 r2 r3 r4 u1 u2 u3 hk he
      cases h
      have h1 := (hT _ _ hti).kd
      have h2 := (hT _ _ hk).kd
      obtain ⟨i, z, h3, h4, h5, h6, h7, h8⟩ := (hT _ _ he).info
      simp only [kdOk] at h1 h2
      refine ⟨k, e, h1, h2, fun w => ?_⟩
      have hz : z = .agg #[] := by
        have h9 : z.cells.toList = [] := by
          cases hc : z.cells.toList with
          | nil => rfl
          | cons v vs =>
            exfalso
            rw [hc] at h7
            unfold cellsOf at h7
            split at h7 <;> cases h7
        have h10 : z.cells = #[] := by simpa using h9
        cases z <;> simp [Value.cells] at h10
        rw [h10]
      simp [zeroValue, typeInfo, h3, h6, hz]
    · cases h
  · cases h
theorem run_key' {q : IntKind} {n : Int} {k : TypeId} (em : Bool) (m : Nat) (hk : P.underlying k = some (.int q)) (w : World) : (Instr.checkKey em (m + 1) k (.int q n)).run P w = .ok () w := by
  simp [Instr.checkKey, run_underlying hk]
theorem run_key {q : IntKind} {n : Int} {k : TypeId} (em : Bool) (hk : P.underlying k = some (.int q)) (w : World) : (Instr.checkKey em 10000 k (.int q n)).run P w = .ok () w := run_key' em 9999 hk w
theorem run_find {q : IntKind} {n : Int} {k : TypeId} {es : List MapEntry} {r : Option (Nat × Value)} (hk : P.underlying k = some (.int q)) (h : Instr.findNow (.int q) (.int q n) es 0 = some r) (w : World) : (Instr.findKey k (.int q n) es).run P w = .ok r w := by
  simp [Instr.findKey, run_underlying hk, h]
theorem makeMap_rel (hH : HRel ρ H w) : ∃ cv ρ' w', (Instr.makeMap t none).run P w = .ok cv w' ∧ VRel ρ' (appL H [.mp true []]) (.c (.m H.length)) cv ∧ Step ρ H w ρ' (appL H [.mp true []]) w' := by
  rw [appL_eq]
  refine ⟨_, turn ρ H.length (fun _ => .map (some w.heap.size)), _, run_makeMap t w, ?_, step_push hH ?_ ?_ ?_⟩
  · exact ⟨Gb_push _ _ Nat.zero_lt_one, w.heap.size, by rw [turn_same], rfl⟩
  · exact (b1 w _)
  · exact ⟨w.heap.size, #[], 0, by rw [turn_same], heap_alloc_new w _, rfl, fun e he => by simp at he⟩
  · intro g ho
    have ho : turn ρ H.length (fun _ => .map (some w.heap.size)) H.length 0 = .map (some g) := ho
    rw [turn_same] at ho
    injection ho with ho; injection ho with ho
    omega
theorem vlookup_rel {m k z : V} {u v : Value} (hT : TabOk P T) (h : vlookup T H t m k = some z) (hH : HRel ρ H w) (hm : VRel ρ H m u) (hk : VRel ρ H k v) : ∃ r, (Instr.lookup t u v true).run P w = .ok r w ∧ VRel ρ H z r := by
  unfold vlookup at h
  split at h
  · rename_i q id q' n hq
    obtain ⟨kt, et, h1, h2, h3⟩ := mapKd_ok hT hq
    obtain ⟨hc, h⟩ := bif_some h
    have hqq := ctor_eq hc
    subst hqq
    split at h
    · rename_i wr ks hb
      obtain ⟨b, hb1, rfl⟩ := Option.map_eq_some_iff.1 h
      obtain ⟨g, es, cl, e1, e2, e3, e4⟩ := hH.blk _ _ (by rw [← getL_eq]; exact hb)
      obtain ⟨_, r, e5, rfl⟩ := hm
      rw [e1] at e5
      cases e5
      simp only [VRel, CRel] at hk
      subst hk
      rcases find_set (q0 := q') es.toList ks 0 b e3 hb1 with ⟨rfl, f1⟩ | ⟨rfl, j, e, f1, f2, f3⟩
      · refine ⟨.tuple #[.agg #[], .bool false], ?_, #[.agg #[], .bool false], rfl, ?_⟩
        · simp [Instr.lookup, run_underlying h1, Go.MapKept.run_getObj_map e2, run_key _ h2, run_find h2 f1, h3, Result.andThen]
        · exact All2.cons ⟨#[], rfl, rfl, All2.nil⟩ (All2.cons rfl All2.nil)
      · have hv := e4 e (List.mem_of_getElem? f2)
        rw [hv] at f1
        refine ⟨.tuple #[.agg #[], .bool true], ?_, #[.agg #[], .bool true], rfl, ?_⟩
        · simp [Instr.lookup, run_underlying h1, Go.MapKept.run_getObj_map e2, run_key _ h2, run_find h2 f1, Result.andThen]
        · exact All2.cons ⟨#[], rfl, rfl, All2.nil⟩ (All2.cons rfl All2.nil)
    · cases h
  · cases h
theorem vmapUpd_rel {m k x : V} {u v y : Value} {H' : Heap} (hT : TabOk P T) (h : vmapUpd T H t m k x = some H') (hH : HRel ρ H w) (hm : VRel ρ H m u) (hk : VRel ρ H k v) (hx : VRel ρ H x y) : ∃ w', (Instr.mapUpdate t u v y).run P w = .ok () w' ∧ Step ρ H w ρ H' w' := by
  unfold vmapUpd at h
  split at h
  · rename_i q id q' n hq
    obtain ⟨kt, et, h1, h2, h3⟩ := mapKd_ok hT hq
    obtain ⟨hc, h⟩ := bif_some h
    have hqq := ctor_eq hc
    subst hqq
    obtain ⟨ys, rfl, _, hy⟩ := hx
    have hys : ys = #[] := by
      have := hy.1
      simpa using this.symm
    subst hys
    split at h
    · rename_i ks hb
      have hb' : H[id]? = some (.mp true ks) := by rw [← getL_eq]; exact hb
      obtain ⟨g, es, cl, e1, e2, e3, e4⟩ := hH.blk _ _ hb'
      obtain ⟨_, r, e5, rfl⟩ := hm
      rw [e1] at e5
      cases e5
      simp only [VRel, CRel] at hk
      subst hk
      have fin : ∀ (es' : Array MapEntry) (cl' : Nat) (ks' : List (IntKind × Int)), es'.toList.map (·.key) = ks'.map (fun x => Value.int x.1 x.2) → (∀ e ∈ es'.toList, e.val = .agg #[]) → Step ρ H w ρ (H.set id (.mp true ks')) { w with heap := w.heap.setIfInBounds g (.map es' cl') } := fun es' cl' ks' g1 g2 => by
        have hlt := lt_of_blk e2
        have hst := step_set (b1 := .mp true ks') (rv := ρ id) (w' := { w with heap := w.heap.setIfInBounds g (.map es' cl') }) hH hb' rfl (Nat.le_refl _) (fun _ _ => rfl) rfl rfl rfl (by simp) (fun g' _ hn => by
          have : g ≠ g' := fun e => hn (by rw [← e]; exact e1)
          simp [Array.getElem?_setIfInBounds_ne this]) ?_ ?_
        · rw [turn_self] at hst
          exact hst
        · rw [turn_self]
          exact ⟨g, es', cl', e1, by simp [hlt], g1, g2⟩
        · intro g' ho
          rw [turn_self] at ho
          exact .inr ho
      split at h
      · rename_i hb1
        cases h
        rcases find_set (q0 := q') es.toList ks 0 true e3 hb1 with ⟨h0, _⟩ | ⟨_, j, e, f1, f2, f3⟩
        · cases h0
        · rw [Nat.zero_add] at f1
          have f2' : es[j]? = some e := by simpa using f2
          have hst : (Instr.keyThatStays (.int q' n) (.int q' n)).run P w = .ok (.int q' n) w := by simp [Instr.keyThatStays, Instr.sameBits]
          refine ⟨_, by simp [Instr.mapUpdate, run_underlying h1, Go.MapKept.run_getObj_map e2, run_key _ h2, run_find h2 f1, f2', f3, hst, Go.MapKept.run_setObj_map _ e2, Result.andThen]; rfl, ?_⟩
          have hset : H = H.set id (.mp true ks) := by
            refine List.ext_getElem? fun i => ?_
            by_cases ei : id = i
            · subst ei
              rw [hb', List.getElem?_set_self (List.getElem?_eq_some_iff.1 hb').1]
            · rw [List.getElem?_set_ne ei]
          have := fin (es.modify j fun e => { e with key := .int q' n, val := .agg #[] }) cl ks ?_ ?_
          · rw [← hset] at this
            exact this
          · rw [← e3, Array.toList_modify]
            refine List.ext_getElem? fun i => ?_
            simp only [List.getElem?_map, List.getElem?_modify]
            by_cases ei : j = i
            · subst ei
              simp [f2, f3]
            · cases es.toList[i]? <;> simp [ei]
          · intro e' he'
            rw [Array.toList_modify] at he'
            obtain ⟨i, hi⟩ := List.getElem?_of_mem he'
            rw [List.getElem?_modify] at hi
            obtain ⟨e0, q1, q2⟩ := Option.map_eq_some_iff.1 hi
            by_cases ei : j = i
            · rw [if_pos ei] at q2
              rw [← q2]
            · rw [if_neg ei] at q2
              rw [← q2]
              exact e4 e0 (List.mem_of_getElem? q1)
      · rename_i hb1
        obtain ⟨h', hlt⟩ := setL_some _ _ _ _ h
        subst h'
        rw [appL_eq]
        rcases find_set (q0 := q') es.toList ks 0 false e3 hb1 with ⟨_, f1⟩ | ⟨h0, _⟩
        · refine ⟨_, by simp [Instr.mapUpdate, run_underlying h1, Go.MapKept.run_getObj_map e2, run_key _ h2, run_find h2 f1, Go.MapKept.run_setObj_map _ e2, Result.andThen]; rfl, ?_⟩
          refine fin _ _ _ (by simp [e3]) (fun e he => ?_)
          simp only [Array.toList_push, List.mem_append, List.mem_singleton] at he
          rcases he with he | rfl
          · exact e4 e he
          · rfl
        · cases h0
      · cases h
    · cases h
  · cases h
end
end Go.Proofs.Ytgbdjeofbeibiaa.Pe
