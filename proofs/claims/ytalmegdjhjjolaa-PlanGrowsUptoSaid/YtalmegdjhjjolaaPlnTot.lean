/- plan.Total: sets of numbers as lists; the laws of maps. -/
import Derived.Test.YtalmegdjhjjolaaPlnWy
set_option linter.unusedVariables false
namespace Go.Proofs.Ytalmegdjhjjolaa.Pe
set_option maxRecDepth 10000
set_option maxHeartbeats 4000000
def mpL (q : IntKind) (l : List Int) : List (IntKind × Int) := l.map fun n => (q, n)
theorem mapHas_of (q : IntKind) (n : Int) : ∀ l : List Int, mapHas q n (mpL q l) = some (decide (n ∈ l))
  | [] => by simp [mapHas, mpL]
  | x :: l => by
    have ih := mapHas_of q n l
    show (bif Nat.beq q.ctorIdx q.ctorIdx then (bif eqI n x then some true else mapHas q n (mpL q l)) else none) = _
    rw [ih, Nat.beq_refl, cond_true, eqI_eq]
    by_cases h : n = x
    · subst h; simp
    · have : (n == x) = false := by simpa using h
      rw [this, cond_false]; simp [h]
section
variable {T : Tys} {call : CallF} {op : Op} {tm : List V} {H H' : Heap} {t : TypeId} {pm pk px : Operand} {q : IntKind} {id : Nat} {l : List Int} {n : Int}
/-- Is a number in a set? -/
theorem o_lkp {wr r : Bool} (ho : op = .lookup t pm pk true) (hm : opnd tm pm = some (.c (.m id))) (hk : opnd tm pk = some (.c (.i q n))) (ht : mapKd T t = some q) (hg : getL H id = some (.mp wr (mpL q l))) (hr : decide (n ∈ l) = r) : evOp T call op tm H = some (.t [.ag 0 [], .c (.b r)], H) := by
  subst ho; subst hr
  simp only [evOp, hm, hk, vlookup, ht, Nat.beq_refl, cond_true, hg, mapHas_of, Option.map_some]
/-- A number put into a set. -/
theorem o_mpu (ho : op = .mapUpdate t pm pk px) (hm : opnd tm pm = some (.c (.m id))) (hk : opnd tm pk = some (.c (.i q n))) (hx : opnd tm px = some (.ag 0 [])) (ht : mapKd T t = some q) (hg : getL H id = some (.mp true (mpL q l))) (hr : n ∉ l) (hs : setL H (.mp true (mpL q (l ++ [n]))) id = some H') : evOp T call op tm H = some (.c .un, H') := by
  subst ho
  have e : appL (mpL q l) [(q, n)] = mpL q (l ++ [n]) := by rw [appL_eq]; simp [mpL]
  have hd : decide (n ∈ l) = false := by simpa using hr
  simp only [evOp, hm, hk, hx, vmapUpd, ht, Nat.beq_refl, cond_true, hg, mapHas_of, hd, e, hs, Option.map_some]
theorem o_mpu2 (ho : op = .mapUpdate t pm pk px) (hm : opnd tm pm = some (.c (.m id))) (hk : opnd tm pk = some (.c (.i q n))) (hx : opnd tm px = some (.ag 0 [])) (ht : mapKd T t = some q) (hg : getL H id = some (.mp true (mpL q l))) (hr : n ∈ l) : evOp T call op tm H = some (.c .un, H) := by
  subst ho
  have hd : decide (n ∈ l) = true := by simpa using hr
  simp only [evOp, hm, hk, hx, vmapUpd, ht, Nat.beq_refl, cond_true, hg, mapHas_of, hd, Option.map_some]
theorem o_lenM {aa : Array Operand} {ts : Array TypeId} {wr : Bool} {a1 a2 : Nat} {a3 : List C} {a4 : List PK} {k1 k2 : TypeId} (ho : op = .call ⟨.builtin .len, aa, ts⟩) (ha : opnds tm aa.toList = some [.c (.m id)]) (hts : ts.toList = [t]) (ht : tyAt T t = some ⟨.mp k1 k2, a1, a2, a3, a4⟩) (hg : getL H id = some (.mp wr (mpL q l))) : evOp T call op tm H = some (.c (.i .i64 l.length), H) := by
  subst ho
  have hv : vlen T H t (.c (.m id)) = some (.c (.i .i64 l.length)) := by
    simp only [vlen, ht, hg]; simp [mpL]
  simp only [evOp, ha, hts, hv, Option.map_some]
end
/-! ### what some indices cost -/
/-- Is it an index? -/
def okI (i : Int) : Prop := 0 ≤ i ∧ i < 65802
/-- S: the indices of a list, none twice; B: the places of the second step, none twice. -/
structure TotS (l S B : List Int) : Prop where
  nd : S.Nodup
  mem : ∀ x, x ∈ S ↔ (x ∈ l ∧ okI x)
  nb : B.Nodup
  memB : ∀ y, y ∈ B ↔ ∃ x ∈ S, wayD x = 3 ∧ wayF x = y
def totN (S B : List Int) (s d : Bool) : Int := S.length + (if s then 1 else 0) + (if d then 1 + B.length else 0)
/-- What they cost. -/
def TotP (l : List Int) (t : Int) : Prop := ∃ S B s d, TotS l S B ∧ (s = true ↔ ∃ x ∈ S, wayD x = 2) ∧ (d = true ↔ ∃ x ∈ S, wayD x = 3) ∧ t = totN S B s d
theorem nodup_le : ∀ {A B : List Int}, A.Nodup → (∀ x ∈ A, x ∈ B) → A.length ≤ B.length
  | [], B, _, _ => by simp
  | a :: A, B, h, hs => by
    have hm := hs a (by simp)
    have hn := List.nodup_cons.1 h
    have ih := nodup_le (A := A) (B := B.erase a) hn.2 (fun x hx => by
      have hne : x ≠ a := fun e => hn.1 (e ▸ hx)
      exact (List.mem_erase_of_ne hne).2 (hs x (by simp [hx])))
    rw [List.length_erase_of_mem hm] at ih
    have : 0 < B.length := List.length_pos_iff.2 (fun e => by rw [e] at hm; simp at hm)
    simp only [List.length_cons]
    omega
theorem nodup_eq {A B : List Int} (hA : A.Nodup) (hB : B.Nodup) (h : ∀ x, x ∈ A ↔ x ∈ B) : A.length = B.length :=
  Nat.le_antisymm (nodup_le hA fun x hx => (h x).1 hx) (nodup_le hB fun x hx => (h x).2 hx)
theorem tot_same {l l' : List Int} {t t' : Int} (h : ∀ x, okI x → (x ∈ l ↔ x ∈ l')) (h1 : TotP l t) (h2 : TotP l' t') : t = t' := by
  obtain ⟨S, B, s, d, a1, a2, a3, rfl⟩ := h1
  obtain ⟨S', B', s', d', b1, b2, b3, rfl⟩ := h2
  have hS : ∀ x, x ∈ S ↔ x ∈ S' := fun x => by
    rw [a1.mem, b1.mem]
    exact ⟨fun ⟨g1, g2⟩ => ⟨(h x g2).1 g1, g2⟩, fun ⟨g1, g2⟩ => ⟨(h x g2).2 g1, g2⟩⟩
  have hB : ∀ x, x ∈ B ↔ x ∈ B' := fun x => by
    rw [a1.memB, b1.memB]
    exact ⟨fun ⟨y, g1, g2⟩ => ⟨y, (hS y).1 g1, g2⟩, fun ⟨y, g1, g2⟩ => ⟨y, (hS y).2 g1, g2⟩⟩
  have hs : s = s' := by
    rw [Bool.eq_iff_iff, a2, b2]
    exact ⟨fun ⟨y, g1, g2⟩ => ⟨y, (hS y).1 g1, g2⟩, fun ⟨y, g1, g2⟩ => ⟨y, (hS y).2 g1, g2⟩⟩
  have hd : d = d' := by
    rw [Bool.eq_iff_iff, a3, b3]
    exact ⟨fun ⟨y, g1, g2⟩ => ⟨y, (hS y).1 g1, g2⟩, fun ⟨y, g1, g2⟩ => ⟨y, (hS y).2 g1, g2⟩⟩
  unfold totN
  rw [nodup_eq a1.nd b1.nd hS, nodup_eq a1.nb b1.nb hB, hs, hd]
/-- One more. -/
theorem tot_one {l : List Int} {x : Int} {S B : List Int} {s d : Bool} (h : TotS l S B) (hs : s = true ↔ ∃ x ∈ S, wayD x = 2) (hd : d = true ↔ ∃ x ∈ S, wayD x = 3) (hx : okI x) (hn : x ∉ S) :
    ∃ B', TotS (l ++ [x]) (S ++ [x]) B' ∧ B'.length = B.length + (if wayD x = 3 ∧ wayF x ∉ B then 1 else 0) ∧ B' = (if wayD x = 3 ∧ wayF x ∉ B then B ++ [wayF x] else B) := by
  refine ⟨_, ⟨?_, ?_, ?_, ?_⟩, ?_, rfl⟩
  · rw [List.nodup_append]
    refine ⟨h.nd, by simp, ?_⟩
    intro a ha b hb
    simp at hb; subst hb
    exact fun e => hn (e ▸ ha)
  · intro y
    rw [List.mem_append, h.mem, List.mem_append]
    simp only [List.mem_singleton]
    constructor
    · rintro (⟨g1, g2⟩ | rfl)
      · exact ⟨.inl g1, g2⟩
      · exact ⟨.inr rfl, hx⟩
    · rintro ⟨g1 | rfl, g2⟩
      · exact .inl ⟨g1, g2⟩
      · exact .inr rfl
  · split
    · rename_i c
      rw [List.nodup_append]
      refine ⟨h.nb, by simp, ?_⟩
      intro a ha b hb
      simp at hb; subst hb
      exact fun e => c.2 (e ▸ ha)
    · exact h.nb
  · intro y
    have hm : (∃ z ∈ S ++ [x], wayD z = 3 ∧ wayF z = y) ↔ (y ∈ B ∨ (wayD x = 3 ∧ wayF x = y)) := by
      rw [h.memB]
      constructor
      · rintro ⟨z, hz, g⟩
        rw [List.mem_append, List.mem_singleton] at hz
        rcases hz with hz | rfl
        · exact .inl ⟨z, hz, g⟩
        · exact .inr g
      · rintro (⟨z, hz, g⟩ | g)
        · exact ⟨z, by simp [hz], g⟩
        · exact ⟨x, by simp, g⟩
    rw [hm]
    split
    · rename_i c
      rw [List.mem_append, List.mem_singleton]
      constructor
      · rintro (g | g)
        · exact .inl g
        · exact .inr ⟨c.1, g.symm⟩
      · rintro (g | ⟨_, g⟩)
        · exact .inl g
        · exact .inr g.symm
    · rename_i c
      constructor
      · exact .inl
      · rintro (g | ⟨g1, g2⟩)
        · exact g
        · by_cases c2 : wayF x ∈ B
          · rw [← g2]; exact c2
          · exact absurd ⟨g1, c2⟩ c
  · split <;> simp
/-- An index that is there, or that is none. -/
theorem tot_skip {l : List Int} {x : Int} {S B : List Int} (h : TotS l S B) (hx : ¬ okI x ∨ x ∈ S) : TotS (l ++ [x]) S B := by
  refine ⟨h.nd, fun y => ?_, h.nb, h.memB⟩
  rw [h.mem, List.mem_append, List.mem_singleton]
  constructor
  · rintro ⟨g1, g2⟩; exact ⟨.inl g1, g2⟩
  · rintro ⟨g1 | rfl, g2⟩
    · exact ⟨g1, g2⟩
    · rcases hx with hx | hx
      · exact absurd g2 hx
      · exact (h.mem _).1 hx
end Go.Proofs.Ytalmegdjhjjolaa.Pe
