/- FdsScript: from a row's list of acts to the plain reading's memory. -/
import Derived.Test.YtgbdjeofbeibiaaRowSl
import Derived.Test.YtgbdjeofbeibiaaRowBase
import Derived.Test.YtgbdjeofbeibiaaFcScr
import Derived.Deep.Slices
set_option linter.unusedVariables false
namespace Go.Proofs.Ytgbdjeofbeibiaa.Pe
def zAct : Act := (0, 0, 0, 0)
def actsC (l : List Act) : List C := l.flatMap actC
theorem actsC_len (l : List Act) : (actsC l).length = l.length * 4 := by
  induction l with
  | nil => rfl
  | cons a l ih => simp only [actsC, List.flatMap_cons, List.length_append, List.length_cons] at ih ⊢; rw [ih]; simp [actC]; omega
open Go.RowKit Go.ChangeShapes Go.WideShapes Go.Proofs.Ytgbdjeofbeibiaa.B Go.Deep
section
variable {H : Type} {enc : TypeId × Value → H} {w : World} {base : Nat} {spare : Nat → Bool} {held : Bool}
theorem leaf_Act : AllLeaf enc Try.prog w base spare held 38 [.int .i64, .int .i64, .int .i64, .int .i64] := by
  refine leaf_struct Try.underlying38 (by kernel_rfl) fun j k hj => ?_
  match j, hj with
  | 0, hj => exact ⟨0, _, [.int .i64], rfl, by kernel_rfl, Nat.zero_le _, hj, leaf_int Try.underlying3⟩
  | 1, hj => exact ⟨1, _, [.int .i64], rfl, by kernel_rfl, Nat.le_refl _, hj, leaf_int Try.underlying3⟩
  | 2, hj => exact ⟨2, _, [.int .i64], rfl, by kernel_rfl, Nat.le_refl _, hj, leaf_int Try.underlying3⟩
  | 3, hj => exact ⟨3, _, [.int .i64], rfl, by kernel_rfl, Nat.le_refl _, hj, leaf_int Try.underlying3⟩
  | j + 4, hj => simp at hj
end
theorem flat_len {α β : Type} {h : α → List β} {m : Nat} : ∀ (l : List α), (∀ i ∈ l, (h i).length = m) → (l.flatMap h).length = l.length * m
  | [], _ => by simp
  | x :: l, hl => by
    rw [List.flatMap_cons, List.length_append, hl x List.mem_cons_self, flat_len l fun i hi => hl i (List.mem_cons_of_mem _ hi), List.length_cons, Nat.add_mul]
    omega
theorem flat_all2 {α β γ : Type} {R : β → γ → Prop} {g : α → List β} {h : α → List γ} : ∀ (l : List α), (∀ i ∈ l, All2 R (g i) (h i)) → All2 R (l.flatMap g) (l.flatMap h)
  | [], _ => All2.nil
  | x :: l, hl => by
    rw [List.flatMap_cons, List.flatMap_cons]
    exact (hl x List.mem_cons_self).append (flat_all2 l fun i hi => hl i (List.mem_cons_of_mem _ hi))
theorem flat_cell {w : World} {ad : Addr} {h : Nat → List Value} : ∀ (n : Nat), (∀ i, i < n → (h i).length = 4 ∧ ∀ k, k < 4 → w.cell? ((ad.add (i * 4)).add k) = (h i)[k]?) → ∀ (j : Nat) u, ((List.range n).flatMap h)[j]? = some u → w.cell? (ad.add j) = some u
  | 0, _, j, u, hu => by simp at hu
  | n + 1, hl, j, u, hu => by
    have hlen : ((List.range n).flatMap h).length = n * 4 := by rw [flat_len (m := 4) _ fun i hi => (hl i (by have := List.mem_range.1 hi; omega)).1, List.length_range]
    rw [List.range_succ, List.flatMap_append, List.flatMap_cons, List.flatMap_nil, List.append_nil] at hu
    by_cases hj : j < n * 4
    · rw [List.getElem?_append_left (by omega)] at hu
      exact flat_cell n (fun i hi => hl i (by omega)) j u hu
    · rw [List.getElem?_append_right (by omega), hlen] at hu
      obtain ⟨h1, h2⟩ := hl n (by omega)
      have h3 : j - n * 4 < 4 := by have := (List.getElem?_eq_some_iff.1 hu).1; omega
      have h4 := h2 _ h3
      rw [hu] at h4
      have e : (ad.add (n * 4)).add (j - n * 4) = ad.add j := by rw [Addr.add_add, show n * 4 + (j - n * 4) = j by omega]
      rw [e] at h4
      exact h4
theorem open_acts {H : Type} {enc : TypeId × Value → H} {W : World} {base : Nat} {held : Bool} {t : TypeId} {a : Option Addr} {len cap : Nat} {d : DataW H} {ps : List MemPlace} {ts : List TypeId} {ds : List (DataW H)} {j : Nat}
    (hsz : (DataW.weightsEach Try.prog ts ds).all (· ≤ reachBytes) = true) (ht : ts[j]? = some t) (hd : ds[j]? = some d) (hu : Try.prog.underlying t = some (.slice 38)) (hc : Try.prog.cellsOf 38 = 4) (hB : 1 ≤ Try.prog.bytesOf 38)
    (h : DataW.Trod enc Try.prog W base (fun _ => true) held t (.slice a len cap) d ps) : ∃ p : List Act, p.length = len ∧ (∀ x ∈ p, lo64 x.1 ∧ lo64 x.2.2.2) ∧ HRel (rhoL [.slice a len cap]) [.ror (actsC p) len 4] W ∧ VRel (rhoL [.slice a len cap]) [.ror (actsC p) len 4] (.c (.sl 0 0 len len)) (.slice a len cap) := by
  obtain ⟨fuel, hf⟩ := h
  rcases open_slice hu hf with ⟨hcs, _⟩ | ⟨ad, len', cap', m, n, D, Pl, hcs, hb, hl, hm, hmm, hx, hr⟩
  · simp [Value.cells] at hcs
    obtain ⟨rfl, rfl, rfl⟩ := hcs
    have hb0 : BRel (rhoL [.slice none 0 0]) [.ror (actsC []) 0 4] 0 (.ror (actsC []) 0 4) W := ⟨rfl, by omega, none, 0, rfl, Nat.le_refl _, fun h => by omega⟩
    refine ⟨[], rfl, fun x hx => by simp at hx, (hrel_one hb0 rfl).1, ?_⟩
    exact ⟨⟨_, rfl, Nat.lt_succ_self _⟩, Nat.le_refl _, none, 0, rfl, Nat.le_refl _, fun _ _ => rfl, fun hn => by omega⟩
  · simp [Value.cells] at hcs
    obtain ⟨rfl, rfl, rfl⟩ := hcs
    obtain ⟨hx, _⟩ := Prod.mk.inj hx
    subst hx
    simp only [if_true] at hmm
    subst hmm
    have z := sized_slice hsz ht hd hu
    simp only [List.length_map, List.length_range] at z
    have hrb : reachBytes = 140737488351232 := rfl
    have hlim : len ≤ 140737488351232 := by
      have h1 : (len + (m - len)) * 1 ≤ (len + (m - len)) * Try.prog.bytesOf 38 := Nat.mul_le_mul_left _ hB
      omega
    have key : ∀ i, ∃ f : Act × List Value, i < len → lo64 f.1.1 ∧ lo64 f.1.2.2.2 ∧ (∀ ρ H, Cels ρ H (actC f.1) f.2) ∧ f.2.length = 4 ∧ ∀ k, k < 4 → W.cell? ((ad.add (i * 4)).add k) = f.2[k]? := fun i => by
      by_cases hi : i < len
      · obtain ⟨cs', h1, h2⟩ := hr i (by omega)
        rw [hc] at h1
        obtain ⟨_, hlen, hcell⟩ := World.cells?_some h1
        obtain ⟨h3, h4⟩ := leaf_Act _ _ _ h2
        obtain ⟨zs, h5, h6⟩ := leaf_list _ _ h3 h4
        obtain ⟨z0, zs0, rfl, ⟨n0, rfl, w0⟩, g0⟩ := all2_cons h5
        obtain ⟨z1, zs1, rfl, ⟨n1, rfl, w1⟩, g1⟩ := all2_cons g0
        obtain ⟨z2, zs2, rfl, ⟨n2, rfl, w2⟩, g2⟩ := all2_cons g1
        obtain ⟨z3, zs3, rfl, ⟨n3, rfl, w3⟩, g3⟩ := all2_cons g2
        obtain rfl := all2_nil g3
        exact ⟨((n0, n1, n2, n3), cs'), fun _ => ⟨bounds_i64 w0, bounds_i64 w3, h6, hlen, hcell⟩⟩
      · exact ⟨(zAct, []), fun e => absurd e hi⟩
    obtain ⟨f, hf⟩ := Classical.axiomOfChoice key
    have e0 : actsC ((List.range len).map fun i => (f i).1) = (List.range len).flatMap fun i => actC (f i).1 := by
      simp [actsC, List.flatMap_map]
    have hpl : ((List.range len).map fun i => (f i).1).length = len := by simp
    generalize hp : ((List.range len).map fun i => (f i).1) = p at e0 hpl
    have hb0 : BRel (rhoL [.slice (some ad) len m]) [.ror (actsC p) len 4] 0 (.ror (actsC p) len 4) W := by
      refine ⟨by rw [actsC_len, hpl], by omega, some ad, m, rfl, hl, fun hn => ⟨ad, (List.range len).flatMap fun i => (f i).2, rfl, ?_, ?_, ?_⟩⟩
      · rw [e0]
        exact flat_all2 _ fun i hi => (hf i (List.mem_range.1 hi)).2.2.1 _ _
      · exact flat_cell len fun i hi => ⟨(hf i hi).2.2.2.1, (hf i hi).2.2.2.2⟩
      · have h0 := (hf 0 hn).2.2.2
        obtain ⟨v, hv⟩ : ∃ v, (f 0).2[0]? = some v := ⟨(f 0).2[0]'(by omega), List.getElem?_eq_getElem (by omega)⟩
        have h1 := h0.2 0 (by omega)
        rw [hv, Nat.zero_mul, add_zero_, add_zero_] at h1
        exact World.block_lt_of_cell? W _ h1
    refine ⟨p, hpl, fun x hx => ?_, (hrel_one hb0 rfl).1, ?_⟩
    · rw [← hp] at hx
      obtain ⟨i, hi, rfl⟩ := List.mem_map.1 hx
      have := hf i (List.mem_range.1 hi)
      exact ⟨this.1, this.2.1⟩
    · exact ⟨⟨_, rfl, Nat.lt_succ_self _⟩, Nat.le_refl _, some ad, m, rfl, hl, fun _ _ => rfl, fun hn => ⟨ad, _, _, rfl, by rw [add_zero_]⟩⟩
theorem actsC_at {l : List Act} {i : Nat} {p : Act} (h : l[i]? = some p) : ((actsC l).drop (i * 4)).take 4 = actC p ∧ ((actsC l).drop (i * 4)).take 1 = [.i .i64 p.1] := by
  have hlt := (List.getElem?_eq_some_iff.1 h).1
  have e : actsC l = actsC (l.take i) ++ (actC p ++ actsC (l.drop (i + 1))) := by
    conv => lhs; rw [← List.take_append_drop i l, List.drop_eq_getElem_cons hlt, (List.getElem?_eq_some_iff.1 h).2]
    simp [actsC]
  have hl : (actsC (l.take i)).length = i * 4 := by rw [actsC_len, List.length_take]; omega
  rw [e, ← hl, List.drop_append_of_le_length (Nat.le_refl _), List.drop_length, List.nil_append]
  exact ⟨rfl, rfl⟩
theorem script_row {m o : Int} {a : Option Addr} {len cap : Nat} {p : List Act} {w : World} (w0 : (Lit.int .i64 m).wf = true) (w1 : (Lit.int .i64 o).wf = true) (hp : p.length = len) (hw : ∀ x ∈ p, lo64 x.1 ∧ lo64 x.2.2.2) (hH : HRel (rhoL [.slice a len cap]) [.ror (actsC p) len 4] w) (hv : VRel (rhoL [.slice a len cap]) [.ror (actsC p) len 4] (.c (.sl 0 0 len len)) (.slice a len cap)) : Calls Try.prog 3 #[.int .i64 m, .int .i64 o, .slice a len cap] w fun e w' => e = .returned (.bool true) ∧ Below w.heap.size w w' := by
  subst hp
  have hrd : ∀ (i z : Nat), i * 4 + z ≤ p.length * 4 → rdAt [.ror (actsC p) p.length 4] (.q 0 (i * 4) p.length) z = some (((actsC p).drop (i * 4)).take z) := fun i z h => by
    show (bif Nat.beq p.length p.length then sub (p.length * 4) (actsC p) (i * 4) z else none) = _
    rw [Nat.beq_refl, cond_true]
    exact sub_of (actsC_len p) h
  refine open_call (callW 2000001 5) (script_p [.ror (actsC p) p.length 4] (.sl 0 0 p.length p.length) p m o rfl (fun i a ha => ?_) (fun i a ha => ?_) hw (bounds_i64 w0) (bounds_i64 w1) (by omega)) hH (fun id b hb => ?_) (All2.cons rfl (All2.cons rfl (All2.cons hv All2.nil)))
  · have hlt := (List.getElem?_eq_some_iff.1 ha).1
    have := hrd i 4 (by omega)
    rw [(actsC_at ha).1] at this
    show rdAt _ (.q 0 (0 + i * 4) p.length) 4 = _
    rw [Nat.zero_add]; exact this
  · have hlt := (List.getElem?_eq_some_iff.1 ha).1
    have := hrd i 1 (by omega)
    rw [(actsC_at ha).2] at this
    show rdAt _ (.q 0 (0 + i * 4 + 0) p.length) 1 = _
    rw [Nat.zero_add, Nat.add_zero]; exact this
  · match id, hb with
    | 0, hb => simp at hb; subst hb; rfl
    | k + 1, hb => simp at hb
end Go.Proofs.Ytgbdjeofbeibiaa.Pe
