/- Maps as sets of numbers; lists of numbers: laws. (For the head seat; the plan seat has them in PlnTot, PlnTot2, PlnKit.) -/
import Derived.Test.YtcgmblcpeinpjaaNums
set_option linter.unusedVariables false
namespace Go.Proofs.Ytcgmblcpeinpjaa.Pe
set_option maxRecDepth 10000
set_option maxHeartbeats 4000000
def mpL (q : IntKind) (l : List Int) : List (IntKind × Int) := l.map fun n => (q, n)
theorem mapHas_of (q : IntKind) (n : Int) : ∀ l : List Int, mapHas q n (mpL q l) = some (decide (n ∈ l))
  | [] => by simp [mapHas, mpL]
  | x :: l => by
    have ih := mapHas_of q n l
    show (bif Nat.beq q.ctorIdx q.ctorIdx then (bif eqI n x then some true else mapHas q n (mpL q l)) else none) = _
    rw [ih, Nat.beq_refl, cond_true, eqI_eq]
    by_cases h : n = x
    · subst h; simp
    · have : (n == x) = false := by simpa using h
      rw [this, cond_false]; simp [h]
section
variable {T : Tys} {call : CallF} {op : Op} {tm : List V} {H H' : Heap} {t : TypeId} {pm pk px : Operand} {q : IntKind} {id : Nat} {l : List Int} {n : Int}
/-- Is a number in a set? -/
theorem o_lkp {wr r : Bool} (ho : op = .lookup t pm pk true) (hm : opnd tm pm = some (.c (.m id))) (hk : opnd tm pk = some (.c (.i q n))) (ht : mapKd T t = some q) (hg : getL H id = some (.mp wr (mpL q l))) (hr : decide (n ∈ l) = r) : evOp T call op tm H = some (.t [.ag 0 [], .c (.b r)], H) := by
  subst ho; subst hr
  simp only [evOp, hm, hk, vlookup, ht, Nat.beq_refl, cond_true, hg, mapHas_of, Option.map_some]
/-- A number put into a set. -/
theorem o_mpu (ho : op = .mapUpdate t pm pk px) (hm : opnd tm pm = some (.c (.m id))) (hk : opnd tm pk = some (.c (.i q n))) (hx : opnd tm px = some (.ag 0 [])) (ht : mapKd T t = some q) (hg : getL H id = some (.mp true (mpL q l))) (hr : n ∉ l) (hs : setL H (.mp true (mpL q (l ++ [n]))) id = some H') : evOp T call op tm H = some (.c .un, H') := by
  subst ho
  have e : appL (mpL q l) [(q, n)] = mpL q (l ++ [n]) := by rw [appL_eq]; simp [mpL]
  have hd : decide (n ∈ l) = false := by simpa using hr
  simp only [evOp, hm, hk, hx, vmapUpd, ht, Nat.beq_refl, cond_true, hg, mapHas_of, hd, e, hs, Option.map_some]
theorem o_mpu2 (ho : op = .mapUpdate t pm pk px) (hm : opnd tm pm = some (.c (.m id))) (hk : opnd tm pk = some (.c (.i q n))) (hx : opnd tm px = some (.ag 0 [])) (ht : mapKd T t = some q) (hg : getL H id = some (.mp true (mpL q l))) (hr : n ∈ l) : evOp T call op tm H = some (.c .un, H) := by
  subst ho
  have hd : decide (n ∈ l) = true := by simpa using hr
  simp only [evOp, hm, hk, hx, vmapUpd, ht, Nat.beq_refl, cond_true, hg, mapHas_of, hd, Option.map_some]
theorem o_lenM {aa : Array Operand} {ts : Array TypeId} {wr : Bool} {a1 a2 : Nat} {a3 : List C} {a4 : List PK} {k1 k2 : TypeId} (ho : op = .call ⟨.builtin .len, aa, ts⟩) (ha : opnds tm aa.toList = some [.c (.m id)]) (hts : ts.toList = [t]) (ht : tyAt T t = some ⟨.mp k1 k2, a1, a2, a3, a4⟩) (hg : getL H id = some (.mp wr (mpL q l))) : evOp T call op tm H = some (.c (.i .i64 l.length), H) := by
  subst ho
  have hv : vlen T H t (.c (.m id)) = some (.c (.i .i64 l.length)) := by
    simp only [vlen, ht, hg]; simp [mpL]
  simp only [evOp, ha, hts, hv, Option.map_some]
end
def intsC (l : List Int) : List C := l.map (C.i .i64)
theorem intsC_get {l : List Int} {j : Nat} {z : Int} (h : l[j]? = some z) : (intsC l)[j]? = some (.i .i64 z) := by simp [intsC, h]
theorem o_mkm {T : Tys} {call : CallF} {op : Op} {tm : List V} {H L L' : Heap} {t : TypeId} {n : Nat} (ho : op = .makeMap t none) (hn : L.length = n) (hl : appL L [.mp true (mpL .i64 [])] = L') : evOp T call op tm (appL H L) = some (.c (.m (H.length + n)), appL H L') := by
  subst ho
  simp only [mpL, List.map_nil] at hl
  simp only [evOp, len_app hn, app_app hl]
theorem hl1 {a b x : Bk} {M : Heap} : getL (a :: b :: appL M [x]) (M.length + 1 + 1) = some x := getL_last (N := M)
theorem hs1 {a b x y : Bk} {M : Heap} : setL (a :: b :: appL M [x]) y (M.length + 1 + 1) = some (a :: b :: appL M [y]) := by
  show consO a (consO b (setL (appL M [x]) y M.length)) = _
  rw [setL_last]; rfl
theorem hp1 {a b x y : Bk} {M : Heap} : getL (a :: b :: appL (appL M [x]) [y]) (M.length + 1 + 1) = some x := getL_base (H := appL M [x]) (getL_last (N := M))
structure Hide (A : Prop) : Prop where
  out : A
theorem intsC_len (l : List Int) : (intsC l).length = l.length := by simp [intsC]
theorem intsC_app (l m : List Int) : intsC l ++ intsC m = intsC (l ++ m) := by simp [intsC]
theorem intsC_take (l : List Int) (n : Nat) : (intsC l).take n = intsC (l.take n) := by simp [intsC, List.map_take]
theorem intsC_free (l : List Int) : ∀ c ∈ intsC l, c.ref = none := by
  intro c hc
  simp only [intsC, List.mem_map] at hc
  obtain ⟨b, _, rfl⟩ := hc
  rfl
theorem intsC_set (l : List Int) (j : Nat) (c : Int) : (intsC l).set j (.i .i64 c) = intsC (l.set j c) := by unfold intsC; rw [List.map_set]
theorem rowPI {H : Heap} {id k lo gen m : Nat} {wr : Bool} {e : TypeId} {l : List Int} (hb : getL H id = some (.row wr (intsC l) k lo 1 e)) (hl : l.length = k) (h1 : lo ≤ gen) (h2 : gen ≤ k) (h3 : m ≤ gen) : Rows H (.sl id 0 m gen) 1 m (intsC (l.take m)) := by
  have h4 := Rows.row (n := gen) hb (by rw [intsC_len, hl, Nat.mul_one]) h1 h2
  have h5 := h4.part (l := 0) (h := m) (Nat.zero_le _) h3 (.inl (by simp))
  simp only [subC, Nat.mul_one, Nat.zero_mul, Nat.add_zero, Nat.sub_zero, List.drop_zero] at h5
  rw [List.take_take, intsC_take, Nat.min_eq_left h3] at h5
  exact h5
end Go.Proofs.Ytcgmblcpeinpjaa.Pe
