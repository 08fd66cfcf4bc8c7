/- For the rows: values all of whose cells are numbers, truths and texts, opened; what a call's plain reading says of the row. -/
import Derived.Test.YtgbdjeofbeibiaaRowBase
import Derived.Test.YtgbdjeofbeibiaaPeW
import Derived.ChangeArms
import Derived.ChangeMaps5
namespace Go.Proofs.Ytgbdjeofbeibiaa.Pe
open Go.RowKit Go.ChangeShapes Go.WideShapes Go.Proofs.Ytgbdjeofbeibiaa.B
def LeafV (k : PK) (v : Value) : Prop := match k with
  | .int k => ∃ n, v = .int k n ∧ (Lit.int k n).wf = true
  | .bool => ∃ b, v = .bool b
  | .str => ∃ s, v = .string s ∧ s.size ≤ maxLen
  | .oth => False
def LeafC (k : PK) (c : C) : Prop := match k with
  | .int k => ∃ n, c = .i k n ∧ (Lit.int k n).wf = true
  | .bool => ∃ b, c = .b b
  | .str => ∃ s, c = .s s ∧ s.length ≤ maxLen
  | .oth => False
theorem leaf_cel {k : PK} {v : Value} (h : LeafV k v) : ∃ c, LeafC k c ∧ ∀ ρ H, Cel ρ H c v := by
  cases k with
  | int k => obtain ⟨n, rfl, hw⟩ := h; exact ⟨.i k n, ⟨n, rfl, hw⟩, fun _ _ => ⟨by simp, rfl⟩⟩
  | bool => obtain ⟨b, rfl⟩ := h; exact ⟨.b b, ⟨b, rfl⟩, fun _ _ => ⟨by simp, rfl⟩⟩
  | str => obtain ⟨s, rfl, hs⟩ := h; exact ⟨.s s.data.toList, ⟨_, rfl, by simpa using hs⟩, fun _ _ => ⟨by simp, rfl⟩⟩
  | oth => exact h.elim
section
variable {H : Type} {enc : TypeId × Value → H} {P : Program} {w : World} {base : Nat} {spare : Nat → Bool} {held : Bool}
def AllLeaf (enc : TypeId × Value → H) (P : Program) (w : World) (base : Nat) (spare : Nat → Bool) (held : Bool) (t : TypeId) (ks : List PK) : Prop :=
  ∀ fuel cs x, DataW.trod enc P w base spare held fuel t cs = some x → cs.length = ks.length ∧ ∀ (j : Nat) (k : PK), ks[j]? = some k → ∃ v, cs[j]? = some v ∧ LeafV k v
theorem leaf_int {k : IntKind} {t : TypeId} (ht : P.underlying t = some (.int k)) : AllLeaf enc P w base spare held t [.int k] := by
  intro fuel cs x h
  obtain ⟨v, rfl, _, hw⟩ := DataW.trod_int ht h
  refine ⟨rfl, fun j k' hj => ?_⟩
  cases j with
  | zero => simp at hj; subst hj; exact ⟨_, rfl, v, rfl, hw⟩
  | succ j => simp at hj
theorem leaf_str {t : TypeId} (ht : P.underlying t = some .string) : AllLeaf enc P w base spare held t [.str] := by
  intro fuel cs x h
  obtain ⟨s, rfl, _, hs⟩ := DataW.trod_string ht h
  refine ⟨rfl, fun j k' hj => ?_⟩
  cases j with
  | zero => simp at hj; subst hj; exact ⟨_, rfl, s, rfl, hs⟩
  | succ j => simp at hj
theorem rep_flat_get (n m : Nat) (ks : List PK) (hm : ks.length = m) (hp : 0 < m) : ∀ j k, (List.replicate n ks).flatten[j]? = some k → j / m < n ∧ ks[j % m]? = some k := by
  induction n with
  | zero => intro j k h; simp at h
  | succ n ih =>
    intro j k h
    rw [List.replicate_succ, List.flatten_cons] at h
    by_cases hj : j < m
    · rw [List.getElem?_append_left (by omega)] at h
      rw [Nat.div_eq_of_lt hj, Nat.mod_eq_of_lt hj]
      exact ⟨by omega, h⟩
    · rw [List.getElem?_append_right (by omega), hm] at h
      obtain ⟨h1, h2⟩ := ih _ _ h
      have e : j = (j - m) + m := by omega
      rw [e, Nat.add_div_right _ hp, Nat.add_mod_right]
      exact ⟨by omega, h2⟩
theorem leaf_array {t e : TypeId} {n : Nat} {ks : List PK} (ht : P.underlying t = some (.array n e)) (hc : P.cellsOf t = n * ks.length) (he : P.cellsOf e = ks.length) (hp : 0 < ks.length) (hi : AllLeaf enc P w base spare held e ks) : AllLeaf enc P w base spare held t (List.replicate n ks).flatten := by
  intro fuel cs x h
  obtain ⟨xs, f, _, _, hl, hx, hi'⟩ := DataW.trod_array ht h
  have hlen : cs.length = (List.replicate n ks).flatten.length := by rw [hl, hc]; simp
  refine ⟨hlen, fun j k hj => ?_⟩
  obtain ⟨h1, h2⟩ := rep_flat_get n ks.length ks rfl hp j k hj
  have h3 := hi' (j / ks.length) (by omega)
  have hj2 : j / ks.length < xs.length := by omega
  rw [List.getElem?_eq_getElem hj2] at h3
  obtain ⟨h4, h5⟩ := hi _ _ _ h3
  obtain ⟨v, hv, hw⟩ := h5 _ _ h2
  refine ⟨v, ?_, hw⟩
  have hm : j % ks.length < ks.length := Nat.mod_lt _ hp
  have e2 : j / ks.length * ks.length + j % ks.length = j := Nat.div_add_mod' j ks.length
  rw [he] at hv
  simpa [List.getElem?_take, List.getElem?_drop, hm, e2] using hv
theorem leaf_struct {t : TypeId} {fs : Array Field} {ks : List PK} (ht : P.underlying t = some (.struct fs)) (hc : P.cellsOf t = ks.length)
    (hf : ∀ (j : Nat) (k : PK), ks[j]? = some k → ∃ (i : Nat) (f : Field) (c : List PK), fs[i]? = some f ∧ P.cellsOf f.type = c.length ∧ f.offset ≤ j ∧ c[j - f.offset]? = some k ∧ AllLeaf enc P w base spare held f.type c) : AllLeaf enc P w base spare held t ks := by
  intro fuel cs x h
  obtain ⟨xs, n, _, _, hl, hx, hi'⟩ := DataW.trod_struct ht h
  refine ⟨by rw [hl, hc], fun j k hj => ?_⟩
  obtain ⟨i, f, c, hfi, hcf, ho, hck, hall⟩ := hf j k hj
  have h1 := hi' i f hfi
  have hi2 : i < xs.length := by rw [hx]; exact (Array.getElem?_eq_some_iff.1 hfi).1
  rw [List.getElem?_eq_getElem hi2, hcf] at h1
  obtain ⟨h2, h3⟩ := hall _ _ _ h1
  obtain ⟨v, hv, hw⟩ := h3 _ _ hck
  refine ⟨v, ?_, hw⟩
  have e : f.offset + (j - f.offset) = j := by omega
  have hlt2 : j - f.offset < c.length := (List.getElem?_eq_some_iff.1 hck).1
  simpa [List.getElem?_take, List.getElem?_drop, hlt2, e] using hv
theorem leaf_list : ∀ (ks : List PK) (cs : List Value), cs.length = ks.length → (∀ (j : Nat) (k : PK), ks[j]? = some k → ∃ v, cs[j]? = some v ∧ LeafV k v) → ∃ zs, All2 LeafC ks zs ∧ ∀ ρ H, Cels ρ H zs cs
  | [], [], _, _ => ⟨[], All2.nil, fun _ _ => All2.nil⟩
  | [], _ :: _, h, _ => by simp at h
  | _ :: _, [], h, _ => by simp at h
  | k :: ks, v :: cs, h, hj => by
    obtain ⟨v', e, h0⟩ := hj 0 k rfl
    simp at e; subst e
    obtain ⟨c, h1, h2⟩ := leaf_cel h0
    obtain ⟨zs, h3, h4⟩ := leaf_list ks cs (by simpa using h) fun j k' hk => by simpa using hj (j + 1) k' (by simpa using hk)
    exact ⟨c :: zs, All2.cons h1 h3, fun ρ H => All2.cons (h2 ρ H) (h4 ρ H)⟩
/-- A value of such a type. -/
theorem open_leaf {t : TypeId} {ks : List PK} {v : Value} {d : DataW H} {ps : List MemPlace} (ha : AllLeaf enc P w base spare held t ks) (hg : ∃ cs, v = .agg cs)
    (h : DataW.Trod enc P w base spare held t v d ps) : ∃ zs : List C, All2 LeafC ks zs ∧ ∀ ρ H, VRel ρ H (.ag ks.length zs) v := by
  obtain ⟨cs, rfl⟩ := hg
  obtain ⟨fuel, hf⟩ := h
  obtain ⟨h1, h2⟩ := ha _ _ _ hf
  simp only [Value.cells] at h1 h2
  obtain ⟨zs, h3, h4⟩ := leaf_list ks cs.toList h1 h2
  exact ⟨zs, h3, fun ρ H => ⟨cs, rfl, h3.1.symm, h4 ρ H⟩⟩
theorem agg_struct {r : Reach} {b0 : Nat} {t : TypeId} {fs : Array Field} {v : Value} (ht : P.underlying t = some (.struct fs)) (h : Value.okWide P w r b0 t v) : ∃ cs, v = .agg cs := by
  obtain ⟨cs, rfl, _⟩ := okWide_struct ht h
  exact ⟨cs, rfl⟩
theorem agg_array {r : Reach} {b0 : Nat} {t e : TypeId} {n : Nat} {v : Value} (ht : P.underlying t = some (.array n e)) (h : Value.okWide P w r b0 t v) : ∃ cs, v = .agg cs := by
  simp only [Value.okWide, ht] at h
  obtain ⟨cs, h1, _⟩ := h
  exact ⟨cs, h1⟩
end
theorem all2_cons {k : PK} {ks : List PK} {zs : List C} (h : All2 LeafC (k :: ks) zs) : ∃ z zs', zs = z :: zs' ∧ LeafC k z ∧ All2 LeafC ks zs' := by
  cases zs with
  | nil => exact absurd h.1 (by simp)
  | cons z zs => exact ⟨z, zs, rfl, h.2 0 k z rfl rfl, ⟨by simpa using h.1, fun i x y hx hy => h.2 (i + 1) x y (by simpa using hx) (by simpa using hy)⟩⟩
theorem all2_nil {zs : List C} (h : All2 LeafC [] zs) : zs = [] := by
  have := h.1
  simp at this
  exact List.length_eq_zero_iff.1 this.symm
theorem wf_u8 {n : Int} (h : (Lit.int .u8 n).wf = true) : ∃ x : UInt8, n = x.toNat := by
  have := bounds_u8 h
  refine ⟨UInt8.ofNat n.toNat, ?_⟩
  rw [UInt8.toNat_ofNat_of_lt' (by show n.toNat < 256; omega)]
  omega
/-- An array of bytes. -/
theorem leaf_bytes : ∀ (n : Nat) {zs : List C}, All2 LeafC (List.replicate n (PK.int .u8)) zs → ∃ l : List UInt8, zs = bytesC l ∧ l.length = n
  | 0, zs, h => ⟨[], all2_nil h, rfl⟩
  | n + 1, zs, h => by
    obtain ⟨z, zs', rfl, ⟨m, rfl, hw⟩, h2⟩ := all2_cons h
    obtain ⟨l, rfl, hl⟩ := leaf_bytes n h2
    obtain ⟨x, rfl⟩ := wf_u8 hw
    exact ⟨x :: l, rfl, by simp [hl]⟩
/-- A call over memory that it may not write. -/
theorem open_call {P : Program} {call : CallF} (hc : CallOk P call) {f : FuncId} {args : List V} {H : Heap} (h : pF call f args H fun v _ => v = .c (.b true)) {ρ : Ren} {w : World} {cargs : Array Value} (hH : HRel ρ H w) (hno : ∀ (id : Nat) b, H[id]? = some b → b.wr = false)
    (ha : All2 (VRel ρ H) args cargs.toList) : Calls P f cargs w fun e w' => e = .returned (.bool true) ∧ Below w.heap.size w w' := by
  obtain ⟨v, H', h1, rfl⟩ := h
  obtain ⟨_, h3⟩ := hc f args H _ H' h1
  refine (h3 ρ w cargs hH ha).mono ?_
  rintro e w' ⟨cv, ρ', rfl, g1, g2⟩
  have g1 : cv = .bool true := g1
  subst g1
  exact ⟨rfl, g2.keep.os, g2.keep.tape, g2.keep.output, g2.keep.size, fun k hk => g2.keep.block k hk fun id b hb hw => by rw [hno id b hb] at hw; cases hw⟩
theorem hrel_nil (ρ : Ren) (w : World) : HRel ρ [] w := ⟨fun id b hb => by simp at hb, fun i j bi bj g _ hb => by simp at hb⟩
end Go.Proofs.Ytgbdjeofbeibiaa.Pe
