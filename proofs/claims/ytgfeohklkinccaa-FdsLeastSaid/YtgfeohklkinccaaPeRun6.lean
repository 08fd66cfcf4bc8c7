/- A plain reading of the model's code: code, functions; what the plain reading reckons is what the call hands back. -/
import Derived.Test.YtgfeohklkinccaaPeMix
import Derived.LoopN
set_option linter.unusedVariables false
namespace Go.Proofs.Ytgfeohklkinccaa.Pe
open Go.RowKit
def Ex.exit' : Ex → Exit
  | .normal => .normal
  | .exit id => .exit id
  | .ret => .ret
section
variable {P : Program} {T : Tys} {K : Nat} {call : CallF}
def CodeOk (P : Program) (c : Code) (f : St → Option (Ex × St)) : Prop := ∀ (s s' : St) (ex : Ex), f s = some (ex, s') → ∀ (ρ : Ren) (w : World) (a : Act), TRel ρ s.H s.tm a.tmps → HRel ρ s.H w → ∀ (Q : Exit → Act → World → Prop),
    (∀ a' ρ' w', TRel ρ' s'.H s'.tm a'.tmps → a'.defers = a.defers → Step ρ s.H w ρ' s'.H w' → Q ex.exit' a' w') → c.wp P Q a w
theorem CodeOk.use {c : Code} {f : St → Option (Ex × St)} (k : CodeOk P c f) {s s' : St} {ex : Ex} (h : f s = some (ex, s')) {ρ : Ren} {w : World} {a : Act} (ht : TRel ρ s.H s.tm a.tmps) (hH : HRel ρ s.H w) {Q : Exit → Act → World → Prop}
    (hQ : ∀ a' ρ' w', TRel ρ' s'.H s'.tm a'.tmps → a'.defers = a.defers → Step ρ s.H w ρ' s'.H w' → Q ex.exit' a' w') : c.wp P Q a w := k s s' ex h ρ w a ht hH Q hQ
theorem iter_succ (f : St → Option (Ex × St)) (n : Nat) (s : St) : iter f (n + 1) s = (match f s with
    | some (.normal, s') => iter f n s'
    | r => r) := rfl
theorem iter_rounds {c : Code} {f : St → Option (Ex × St)} (ih : CodeOk P c f) : ∀ (n : Nat) {s s' : St} {ex : Ex}, iter f n s = some (ex, s') → ∀ {ρ : Ren} {w : World} {a : Act}, TRel ρ s.H s.tm a.tmps → HRel ρ s.H w → ∀ {Q : Exit → Act → World → Prop},
    (∀ a' ρ' w', TRel ρ' s'.H s'.tm a'.tmps → a'.defers = a.defers → Step ρ s.H w ρ' s'.H w' → ex ≠ .normal → Q ex.exit' a' w') → Code.rounds P c Q n a w
  | 0, s, s', ex, h, ρ, w, a, ht, hH, Q, hQ => by cases h
  | n + 1, s, s', ex, h, ρ, w, a, ht, hH, Q, hQ => by
    rw [iter_succ] at h
    rw [rounds_succ]
    split at h
    · rename_i s1 hs
      refine ih.use hs ht hH fun a1 ρ1 w1 t1 d1 g1 => ?_
      exact iter_rounds ih n h t1 g1.rel fun a' ρ' w' t' d' g' hne => hQ a' ρ' w' t' (d'.trans d1) (g1.trans g') hne
    · rename_i hne
      refine ih.use h ht hH fun a1 ρ1 w1 t1 d1 g1 => ?_
      have hex : ex ≠ .normal := fun e => hne s' (by rw [h, e])
      have := hQ a1 ρ1 w1 t1 d1 g1 hex
      cases ex with
      | normal => exact absurd rfl hex
      | exit id => exact this
      | ret => exact this
theorem evC_ok (hT : TabOk P T) (hcall : CallOk P call) (hm : P.follows .mixedOrders = true) : ∀ (c : Code), CodeOk P c (evC T call K c)
  | .skip => by
    intro s s' ex h ρ w a ht hH Q hQ
    cases (h : some (Ex.normal, s) = some (ex, s'))
    exact wp_skip (hQ a ρ w ht rfl (Step.refl hH))
  | .region id ops draw => by
    intro s s' ex h ρ w a ht hH Q hQ
    have h2 : (match (bif draw then evDrawM T call ops.toList s.tm s.H else evSeq T call ops.toList ops.toList s.tm s.H) with
      | some (tm, H) => some (Ex.normal, (⟨tm, H⟩ : St))
      | none => none) = some (ex, s') := h
    split at h2
    · rename_i tm H' hr
      cases h2
      cases draw with
      | true => exact evDrawM_goes hT hcall hm hr ht hH hQ
      | false => exact region_goes hT hcall hr ht hH hQ
    · cases h2
  | .seq x y => by
    intro s s' ex h ρ w a ht hH Q hQ
    have h2 : (match evC T call K x s with
      | some (.normal, s') => evC T call K y s'
      | r => r) = some (ex, s') := h
    refine wp_seq ?_
    split at h2
    · rename_i s1 hs
      refine (evC_ok hT hcall hm x).use hs ht hH fun a1 ρ1 w1 t1 d1 g1 => ?_
      exact (evC_ok hT hcall hm y).use h2 t1 g1.rel fun a' ρ' w' t' d' g' => hQ a' ρ' w' t' (d'.trans d1) (g1.trans g')
    · rename_i hne
      refine (evC_ok hT hcall hm x).use h2 ht hH fun a1 ρ1 w1 t1 d1 g1 => ?_
      have := hQ a1 ρ1 w1 t1 d1 g1
      cases ex with
      | normal => exact absurd h2 (hne s')
      | exit id => exact this
      | ret => exact this
  | .cond c x y => by
    intro s s' ex h ρ w a ht hH Q hQ
    have h2 : (match opnd s.tm c with
      | some (.c (.b b)) => bif b then evC T call K x s else evC T call K y s
      | _ => none) = some (ex, s') := h
    split at h2
    · rename_i b hb
      have hv := opnd_rel ht hb
      simp only [VRel, CRel] at hv
      refine wp_cond hv ?_
      cases b with
      | true => exact (evC_ok hT hcall hm x).use h2 ht hH hQ
      | false => exact (evC_ok hT hcall hm y).use h2 ht hH hQ
    · cases h2
  | .block id c => by
    intro s s' ex h ρ w a ht hH Q hQ
    have h2 : (match evC T call K c s with
      | some (.exit j, s') => bif Nat.beq j id then some (.normal, s') else some (.exit j, s')
      | r => r) = some (ex, s') := h
    refine wp_block ?_
    split at h2
    · rename_i j s1 hs
      refine (evC_ok hT hcall hm c).use hs ht hH fun a1 ρ1 w1 t1 d1 g1 => ?_
      cases hj : Nat.beq j id with
      | true =>
        simp only [hj, cond_true] at h2
        cases h2
        have hj := beq_nat hj
        simp only [Ex.exit', Exit.inBlock, hj, if_true]
        exact hQ a1 ρ1 w1 t1 d1 g1
      | false =>
        simp only [hj, cond_false] at h2
        cases h2
        have hj' : j ≠ id := fun e => by rw [e] at hj; simp at hj
        simp only [Ex.exit', Exit.inBlock, hj', if_false]
        exact hQ a1 ρ1 w1 t1 d1 g1
    · rename_i hne
      refine (evC_ok hT hcall hm c).use h2 ht hH fun a1 ρ1 w1 t1 d1 g1 => ?_
      have := hQ a1 ρ1 w1 t1 d1 g1
      cases ex with
      | normal => exact this
      | exit id => exact absurd h2 (hne id s')
      | ret => exact this
  | .loop c => by
    intro s s' ex h ρ w a ht hH Q hQ
    refine wp_loop_rounds K ?_
    exact iter_rounds (evC_ok hT hcall hm c) K (h : iter (evC T call K c) K s = some (ex, s')) ht hH fun a' ρ' w' t' d' g' _ => hQ a' ρ' w' t' d' g'
  | .rangeFunc _ _ _ _ => by intro s s' ex h; cases h
  | .exit id => by
    intro s s' ex h ρ w a ht hH Q hQ
    cases (h : some (Ex.exit id, s) = some (ex, s'))
    exact wp_exit (hQ a ρ w ht rfl (Step.refl hH))
  | .scope _ => by intro s s' ex h; cases h
  | .label l => by
    intro s s' ex h ρ w a ht hH Q hQ
    cases (h : some (Ex.normal, s) = some (ex, s'))
    exact wp_label (hQ a ρ w ht rfl (Step.refl hH))
  | .goto _ => by intro s s' ex h; cases h
  | .ret => by
    intro s s' ex h ρ w a ht hH Q hQ
    cases (h : some (Ex.ret, s) = some (ex, s'))
    exact wp_ret (hQ a ρ w ht rfl (Step.refl hH))
  | .refuse _ => by intro s s' ex h; cases h
/-! results -/
def resOf (tmps : Array Value) : ResultVar → Sem Value
  | .tmp t => pure (tmps.getD t undef)
  | .cell a t => do loadVar t (← asAddr (tmps.getD a undef))
theorem results_eq (fn : Func) (tmps : Array Value) : results fn tmps = (do
  let vs ← fn.results.mapM (resOf tmps)
  pure (if h : vs.size = 1 then vs[0] else .tuple vs)) := rfl
theorem resV_rel (hT : TabOk P T) {tm : List V} {H : Heap} {ρ : Ren} {w : World} {tmps : Array Value} {r : ResultVar} {v : V} (h : resV T tm H r = some v) (ht : TRel ρ H tm tmps) (hH : HRel ρ H w) :
    ∃ cv, (resOf tmps r).run P w = .ok cv w ∧ VRel ρ H v cv := by
  cases r with
  | tmp t => exact ⟨tmps.getD t undef, by simp only [resOf, Sem.run_pure], ht.val t v (by rw [← getL_eq]; exact h)⟩
  | cell a t =>
    simp only [resV] at h
    split at h
    · rename_i x hx
      rw [getL_eq] at hx
      have hv := ht.val a x hx
      obtain ⟨r, h1, h2⟩ := vload_rel (P := P) hT h hH hv
      refine ⟨r, ?_, h2⟩
      simp only [Instr.loadAt, Sem.run_bind] at h1
      simp only [resOf, Sem.run_bind]
      cases hp : tmps.getD a undef with
      | pointer q =>
        cases q with
        | none => rw [hp] at h1; simp [Instr.sureAddr, stuck, Result.andThen] at h1
        | some ad =>
          rw [hp] at h1
          simpa [Instr.sureAddr, asAddr] using h1
      | _ => rw [hp] at h1; simp [Instr.sureAddr, stuck, Result.andThen] at h1
    · cases h
theorem run_mapM_list {α : Type} {w : World} (f : α → Sem Value) : ∀ (l : List α) (vs : List Value), All2 (fun x v => (f x).run P w = .ok v w) l vs → (l.mapM f).run P w = .ok vs w
  | [], vs, h => by
    obtain rfl : vs = [] := List.eq_nil_of_length_eq_zero h.1.symm
    simp
  | x :: l, [], h => by have := h.1; simp at this
  | x :: l, v :: vs, h => by
    have h0 := h.2 0 _ _ rfl rfl
    have ih := run_mapM_list f l vs ⟨by simpa using h.1, fun i x y p q => h.2 (i + 1) x y (by simpa using p) (by simpa using q)⟩
    simp [List.mapM_cons, h0, ih]
theorem resVs_rel (hT : TabOk P T) {tm : List V} {H : Heap} {ρ : Ren} {w : World} {tmps : Array Value} (ht : TRel ρ H tm tmps) (hH : HRel ρ H w) : ∀ {rs : List ResultVar} {vs : List V}, resVs T tm H rs = some vs → ∃ cvs, All2 (fun r v => (resOf tmps r).run P w = .ok v w) rs cvs ∧ All2 (VRel ρ H) vs cvs
  | [], vs, h => by cases h; exact ⟨[], All2.nil, All2.nil⟩
  | r :: rs, vs, h => by
    simp only [resVs] at h
    split at h
    · rename_i v vs' h1 h2
      cases h
      obtain ⟨cv, h3, h4⟩ := resV_rel (P := P) hT h1 ht hH
      obtain ⟨cvs, h5, h6⟩ := resVs_rel hT ht hH h2
      exact ⟨cv :: cvs, All2.cons h3 h5, All2.cons h4 h6⟩
    · cases h
theorem to1s_rel {ρ : Ren} {H : Heap} : ∀ {vs : List V} {xs : List V1} {cvs : List Value}, to1s vs = some xs → All2 (VRel ρ H) vs cvs → All2 (V1Rel ρ H) xs cvs
  | [], xs, cvs, h, hc => by
    cases h
    obtain rfl : cvs = [] := List.eq_nil_of_length_eq_zero hc.1.symm
    exact All2.nil
  | v :: vs, xs, [], h, hc => by have := hc.1; simp at this
  | v :: vs, xs, cv :: cvs, h, hc => by
    simp only [to1s] at h
    split at h
    · rename_i x xs' h1 h2
      cases h
      refine All2.cons ?_ (to1s_rel h2 ⟨by simpa using hc.1, fun i x y p q => hc.2 (i + 1) x y (by simpa using p) (by simpa using q)⟩)
      have h0 := hc.2 0 _ _ rfl rfl
      cases v with
      | c c => cases h1; exact h0
      | ag n xs => cases h1; exact h0
      | t xs => cases h1
    · cases h
theorem res_rel (hT : TabOk P T) {fn : Func} {s : St} {v : V} {ρ : Ren} {w : World} {a : Act} (h : res T fn s = some v) (ht : TRel ρ s.H s.tm a.tmps) (hH : HRel ρ s.H w) : ∃ cv, (results fn a.tmps).run P w = .ok cv w ∧ VRel ρ s.H v cv := by
  unfold res at h
  have key : ∀ vs, resVs T s.tm s.H fn.results.toList = some vs → ∃ cvs, All2 (VRel ρ s.H) vs cvs ∧ (results fn a.tmps).run P w = .ok (if h : cvs.toArray.size = 1 then cvs.toArray[0] else .tuple cvs.toArray) w := fun vs hvs => by
    obtain ⟨cvs, h1, h2⟩ := resVs_rel (P := P) hT ht hH hvs
    refine ⟨cvs, h2, ?_⟩
    have h3 := run_mapM_list (P := P) (w := w) _ fn.results.toList cvs h1
    have h4 : (fn.results.mapM (resOf a.tmps)).run P w = .ok cvs.toArray w := by
      rw [Array.mapM_eq_mapM_toList]
      simp [h3]
    rw [results_eq]
    simp only [Sem.run_bind, h4, Result.andThen_ok, Sem.run_pure]
  split at h
  · rename_i v' hvs
    cases h
    obtain ⟨cvs, h1, h2⟩ := key _ hvs
    obtain ⟨cv, rfl, h3⟩ := all2_one h1
    exact ⟨cv, h2, h3⟩
  · rename_i vs hne hvs
    obtain ⟨xs, h1, rfl⟩ := map_some h
    obtain ⟨cvs, h3, h4⟩ := key _ hvs
    have hn : cvs.length ≠ 1 := fun e => by
      rw [← h3.1] at e
      obtain ⟨v', rfl⟩ := List.length_eq_one_iff.1 e
      exact hne v' rfl
    refine ⟨.tuple cvs.toArray, ?_, cvs.toArray, rfl, by simpa using to1s_rel h1 h3⟩
    rw [h4, dif_neg (by simpa using hn)]
  · cases h
/-! functions -/
abbrev FnsOk (P : Program) (F : Fns) : Prop := ∀ r ∈ F, P.funcs[r.1]? = some r.2 ∧ (r.2.name == "runtime.NumGoroutine") = false
/-- One call's body, its own calls given. -/
noncomputable def run1 (T : Tys) (F : Fns) (K : Nat) (call : CallF) : CallF := fun f args H => match fnAt F f with
  | some fn => match fn.body with
    | some c => match evC T call K c ⟨appL args (List.replicate (fn.ntmps - args.length) (.c .un)), H⟩ with
      | some (.exit _, _) => none
      | some (_, s) => (res T fn s).map fun v => (v, s.H)
      | none => none
    | none => none
  | none => none
theorem run1_ok (hT : TabOk P T) {F : Fns} (hF : FnsOk P F) (hm : P.follows .mixedOrders = true) {call : CallF} (hcall : CallOk P call) : CallOk P (run1 T F K call) := by
    intro f args H v H' h
    unfold run1 at h
    split at h
    rotate_left
    · cases h
    rename_i fn hfn
    obtain ⟨hf, hname⟩ := hF _ (look_mem F f fn hfn)
    split at h
    rotate_left
    · cases h
    rename_i c hc
    refine ⟨⟨fn, hf, hname, by simp [hc]⟩, fun ρ w cargs hH ha => ?_⟩
    have hlen : args.length = cargs.size := by simpa using ha.1
    have ht : TRel ρ H (appL args (List.replicate (fn.ntmps - args.length) (.c .un))) (cargs ++ Array.replicate (fn.ntmps - cargs.size) undef) := by
      rw [appL_eq]
      refine ⟨by simp [hlen], fun t x hx => ?_⟩
      by_cases hlt : t < args.length
      · rw [List.getElem?_append_left hlt] at hx
        obtain ⟨y, h1, h2⟩ := ha.get hx
        have h3 : cargs[t]? = some y := by simpa using h1
        have h4 : t < cargs.size := by omega
        simpa [Array.getElem?_append_left h4, h3] using h2
      · rw [List.getElem?_append_right (by omega), List.getElem?_replicate] at hx
        split at hx
        · cases hx
          rename_i hk
          have h4 : ¬ t < cargs.size := by omega
          have h5 : t - cargs.size < fn.ntmps - cargs.size := by omega
          have : (cargs ++ Array.replicate (fn.ntmps - cargs.size) undef).getD t undef = undef := by
            simp [Array.getElem?_append_right (by omega : cargs.size ≤ t), h5]
          rw [this]
          rfl
        · cases hx
    split at h
    · cases h
    · rename_i ex s hne hev
      obtain ⟨v', hv, h2⟩ := map_some h
      cases h2
      refine calls_of_wp hf hc ((evC_ok hT hcall hm c).use hev ht hH fun a' ρ' w' t' d' g' => ?_)
      obtain ⟨cv, r1, r2⟩ := res_rel (P := P) hT hv t' g'.rel
      cases ex with
      | normal => exact ⟨d', cv, r1, cv, ρ', rfl, r2, g'⟩
      | ret => exact ⟨d', cv, r1, cv, ρ', rfl, r2, g'⟩
      | exit id => exact absurd rfl (hne id)
    · cases h
theorem evF_ok (hT : TabOk P T) {F : Fns} (hF : FnsOk P F) (hm : P.follows .mixedOrders = true) : ∀ (d : Nat), CallOk P (evF T F K d)
  | 0 => fun f args H v H' h => by cases h
  | d + 1 => run1_ok hT hF hm (evF_ok hT hF hm d)
end
end Go.Proofs.Ytgfeohklkinccaa.Pe
