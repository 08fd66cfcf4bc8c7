/- A plain reading of the model's code: slices. -/
import Derived.Test.YtgbdjeofbeibiaaPeW
set_option linter.unusedVariables false
namespace Go.Proofs.Ytgbdjeofbeibiaa.Pe
def slen : C → Option Nat
  | .ns => some 0
  | .sl _ _ n _ => some n
  | .va _ _ n _ => some n
  | .vr _ _ n _ _ => some n
  | _ => none
/-- Where place j of a slice lies. -/
def satC (sz j : Nat) : C → C
  | .sl id off _ g => .q id (off + j * sz) g
  | .va id off _ _ => .p id (off + j * sz)
  | .vr id off _ _ g => .q id (off + j * sz) g
  | c => c
/-- A part of a slice. -/
def subC (sz l h : Nat) : C → C
  | .sl id off _ g => .sl id (off + l * sz) (h - l) g
  | .va id off _ cap => .va id (off + l * sz) (h - l) (cap - l)
  | .vr id off _ cap g => .vr id (off + l * sz) (h - l) (cap - l) g
  | c => c
theorem sub_of {cs : List C} {m off n : Nat} (hl : cs.length = m) (h : off + n ≤ m) : sub m cs off n = some ((cs.drop off).take n) := by
  unfold sub
  cases hc : (Nat.beq off 0 && Nat.beq n m) with
  | true =>
    simp only [Bool.and_eq_true] at hc
    have h0 := beq_nat hc.1
    have h1 := beq_nat hc.2
    subst h0 h1
    rw [cond_true, List.drop_zero, List.take_of_length_le (by omega)]
  | false =>
    rw [cond_false, dropL_eq, takeL_of _ _ (by simp; omega)]
theorem rdAt_app {H L : Heap} {a : C} {n : Nat} {cs : List C} (h : rdAt H a n = some cs) : rdAt (appL H L) a n = some cs := by
  cases a with
  | p id off =>
    simp only [rdAt] at h ⊢
    cases hg : getL H id with
    | none => rw [hg] at h; cases h
    | some b => rw [getL_base hg]; rw [hg] at h; exact h
  | q id off gen =>
    simp only [rdAt] at h ⊢
    cases hg : getL H id with
    | none => rw [hg] at h; cases h
    | some b => rw [getL_base hg]; rw [hg] at h; exact h
  | _ => exact h
theorem rdAt_frz {H : Heap} {a : C} {n : Nat} {cs : List C} (h : rdAt H a n = some cs) : rdAt (freeze H) a n = some cs := by
  cases a with
  | p id off =>
    simp only [rdAt] at h ⊢
    cases hg : getL H id with
    | none => rw [hg] at h; cases h
    | some b => rw [getL_frz hg]; rw [hg] at h; cases b <;> exact h
  | q id off gen =>
    simp only [rdAt] at h ⊢
    cases hg : getL H id with
    | none => rw [hg] at h; cases h
    | some b => rw [getL_frz hg]; rw [hg] at h; cases b <;> exact h
  | _ => exact h
/-- A slice x of n elements, sz cells each, reads as these cells. -/
structure Rows (H : Heap) (x : C) (sz n : Nat) (cs : List C) : Prop where
  len : slen x = some n
  num : cs.length = n * sz
  rng : 0 < n → ∀ j m, j + m ≤ n → rdAt H (satC sz j x) (m * sz) = some ((cs.drop (j * sz)).take (m * sz))
section
variable {H H' L : Heap} {x : C} {sz n : Nat} {cs : List C}
theorem Rows.app (h : Rows H x sz n cs) : Rows (appL H L) x sz n cs := ⟨h.len, h.num, fun hn j m hm => rdAt_app (h.rng hn j m hm)⟩
theorem Rows.frz (h : Rows H x sz n cs) : Rows (freeze H) x sz n cs := ⟨h.len, h.num, fun hn j m hm => rdAt_frz (h.rng hn j m hm)⟩
theorem Rows.ns : Rows H .ns sz 0 [] := ⟨rfl, by simp, fun h => by omega⟩
theorem Rows.ror {id : Nat} (hb : getL H id = some (.ror cs n sz)) (hl : cs.length = n * sz) : Rows H (.sl id 0 n n) sz n cs := by
  refine ⟨rfl, hl, fun hn j m hm => ?_⟩
  simp only [satC, rdAt, hb, Nat.beq_refl, cond_true, Nat.zero_add]
  exact sub_of hl (by rw [← Nat.add_mul]; exact Nat.mul_le_mul_right _ hm)
theorem Rows.row {id k lo : Nat} {wr : Bool} {e : TypeId} (hb : getL H id = some (.row wr cs k lo sz e)) (hl : cs.length = k * sz) (h1 : lo ≤ n) (h2 : n ≤ k) : Rows H (.sl id 0 n n) sz n (cs.take (n * sz)) := by
  have hle : n * sz ≤ k * sz := Nat.mul_le_mul_right _ h2
  refine ⟨rfl, by rw [List.length_take]; omega, fun hn j m hm => ?_⟩
  have hle2 : j * sz + m * sz ≤ n * sz := by rw [← Nat.add_mul]; exact Nat.mul_le_mul_right _ hm
  have c1 : (Nat.ble lo n && Nat.ble (j * sz + m * sz) (n * sz)) = true := by simp [ble_eq, h1]; omega
  simp only [satC, rdAt, hb, Nat.zero_add, c1, cond_true]
  rw [sub_of hl (by omega), List.drop_take, List.take_take]
  congr 2
  omega
theorem Rows.va {id off m cap : Nat} {wr : Bool} (hb : getL H id = some (.var wr m cs)) (hl : cs.length = m) (h : off + n * sz ≤ m) : Rows H (.va id off n cap) sz n ((cs.drop off).take (n * sz)) := by
  refine ⟨rfl, by simp; omega, fun hn j k hm => ?_⟩
  have hle2 : j * sz + k * sz ≤ n * sz := by rw [← Nat.add_mul]; exact Nat.mul_le_mul_right _ hm
  simp only [satC, rdAt, hb]
  rw [sub_of hl (by omega), List.drop_take, List.take_take, List.drop_drop]
  congr 2
  omega
theorem Rows.part {l h : Nat} (hr : Rows H x sz n cs) (h1 : l ≤ h) (h2 : h ≤ n) (hx : x ≠ .ns ∨ h = 0) : Rows H (subC sz l h x) sz (h - l) ((cs.drop (l * sz)).take ((h - l) * sz)) := by
  have hnum := hr.num
  have hle2 : l * sz + (h - l) * sz ≤ n * sz := by rw [← Nat.add_mul]; exact Nat.mul_le_mul_right _ (by omega)
  refine ⟨?_, by simp; omega, fun hn j m hm => ?_⟩
  · have hl := hr.len
    cases x <;> simp [slen, subC] at hl ⊢
    rcases hx with hx | hx
    · exact absurd rfl hx
    · omega
  · have e : satC sz j (subC sz l h x) = satC sz (l + j) x := by
      cases x <;> simp [satC, subC, Nat.add_mul, Nat.add_assoc]
    have hle3 : j * sz + m * sz ≤ (h - l) * sz := by rw [← Nat.add_mul]; exact Nat.mul_le_mul_right _ hm
    rw [e, hr.rng (by omega) _ _ (by omega), List.drop_take, List.take_take, List.drop_drop, Nat.add_mul]
    congr 2
    omega
theorem Rows.rdSl (hr : Rows H x sz n cs) : rdSl H x sz = some (n, cs) := by
  have hl := hr.len
  have hz : n = 0 → cs = [] := fun e => by have := hr.num; subst e; simp at this; exact this
  have all : 0 < n → ∀ a, satC sz 0 x = a → rdAt H a (n * sz) = some cs := fun hn a e => by
    have := hr.rng hn 0 n (by omega)
    rw [e] at this
    rw [this, Nat.zero_mul, List.drop_zero, List.take_of_length_le (by rw [hr.num]; exact Nat.le_refl _)]
  have fin : ∀ a, satC sz 0 x = a → (bif Nat.beq n 0 then some (0, []) else match rdAt H a (n * sz) with
    | some cs => some (n, cs)
    | none => none) = some (n, cs) := fun a e => by
    cases hb : Nat.beq n 0 with
    | true => have := beq_nat hb; rw [hz this, this]; rfl
    | false =>
      have hp : 0 < n := Nat.pos_of_ne_zero fun e => by rw [e] at hb; cases hb
      rw [cond_false, all hp a e]
  cases x with
  | ns => simp [slen] at hl; subst hl; rw [hz rfl]; rfl
  | sl id off len gen => simp [slen] at hl; subst hl; exact fin (.q id off gen) (by simp [satC])
  | va id off len cap => simp [slen] at hl; subst hl; exact fin (.p id off) (by simp [satC])
  | vr id off len cap gen => simp [slen] at hl; subst hl; exact fin (.q id off gen) (by simp [satC])
  | _ => simp [slen] at hl
/-- One cell. -/
theorem Rows.one (hr : Rows H x 1 n cs) {j : Nat} {c : C} (h : cs[j]? = some c) : rdAt H (satC 1 j x) 1 = some [c] := by
  have hlt := (List.getElem?_eq_some_iff.1 h).1
  have := hr.num
  rw [Nat.mul_one] at this
  have h2 := hr.rng (by omega) j 1 (by omega)
  simp only [Nat.mul_one] at h2
  rw [h2]
  congr 1
  rw [List.drop_eq_getElem_cons hlt, (List.getElem?_eq_some_iff.1 h).2]
  rfl
end
/-! ### bytes -/
theorem bytesC_get {l : List UInt8} {j : Nat} {c : UInt8} (h : l[j]? = some c) : (bytesC l)[j]? = some (.i .u8 c.toNat) := by simp [bytesC, h]
theorem bytesC_len (l : List UInt8) : (bytesC l).length = l.length := by simp [bytesC]
theorem bytesC_set (l : List UInt8) (j : Nat) (c : UInt8) : (bytesC l).set j (.i .u8 c.toNat) = bytesC (l.set j c) := by
  unfold bytesC; rw [List.map_set]
theorem bytesC_take (l : List UInt8) (j : Nat) : (bytesC l).take j = bytesC (l.take j) := by simp [bytesC, List.map_take]
theorem bytesC_drop (l : List UInt8) (j : Nat) : (bytesC l).drop j = bytesC (l.drop j) := by simp [bytesC, List.map_drop]
theorem bytesC_app (l m : List UInt8) : bytesC l ++ bytesC m = bytesC (l ++ m) := by simp [bytesC]
theorem bytesC_free (l : List UInt8) : ∀ c ∈ bytesC l, c.ref = none := by
  intro c hc
  simp only [bytesC, List.mem_map] at hc
  obtain ⟨b, _, rfl⟩ := hc
  rfl
theorem bytesC_zero (n : Nat) : List.replicate n (C.i .u8 0) = bytesC (List.replicate n 0) := by simp [bytesC]
theorem bytesC_inj : ∀ {l m : List UInt8}, bytesC l = bytesC m → l = m
  | [], [], _ => rfl
  | [], _ :: _, h => by simp [bytesC] at h
  | _ :: _, [], h => by simp [bytesC] at h
  | a :: l, b :: m, h => by
    simp only [bytesC, List.map_cons, List.cons.injEq, C.i.injEq, true_and] at h
    have h1 : a = b := UInt8.toNat_inj.1 (by have := h.1; omega)
    rw [h1, bytesC_inj (l := l) (m := m) h.2]
theorem ceqs_bytes : ∀ (l m : List UInt8), ceqs (bytesC l) (bytesC m) = (l == m)
  | [], [] => rfl
  | [], _ :: _ => rfl
  | _ :: _, [] => rfl
  | a :: l, b :: m => by
    have ih := ceqs_bytes l m
    show (bif eqI (a.toNat : Int) (b.toNat : Int) then ceqs (bytesC l) (bytesC m) else false) = _
    rw [ih, eqI_eq, List.cons_beq_cons]
    have : ((a.toNat : Int) == (b.toNat : Int)) = (a == b) := by
      rw [Bool.eq_iff_iff]; simp
      constructor
      · intro h; exact UInt8.toNat_inj.1 (by omega)
      · intro h; rw [h]
    rw [this]
    cases a == b <;> rfl
theorem kinds_bytes : ∀ (l : List UInt8), kinds (bytesC l) (List.replicate l.length (.int .u8)) = true
  | [] => rfl
  | a :: l => kinds_bytes l
/-! ### operations -/
section
variable {T : Tys} {call : CallF} {op : Op} {tm : List V} {H L L' : Heap} {t e : TypeId} {px py : Operand} {k : IntKind} {x y : C} {sz n : Nat} {cs : List C} {a1 a2 : Nat} {a3 : List C} {a4 : List PK} {ei : TI}
theorem o_len {as : Array Operand} {ts : Array TypeId} (ho : op = .call ⟨.builtin .len, as, ts⟩) (ha : opnds tm as.toList = some [.c x]) (hts : ts.toList = [t]) (ht : tyAt T t = some ⟨.sl e, a1, a2, a3, a4⟩) (hr : slen x = some n) : evOp T call op tm H = some (.c (.i .i64 n), H) := by
  subst ho
  have hv : vlen T H t (.c x) = some (.c (.i .i64 n)) := by
    cases x <;> simp [slen] at hr <;> subst hr <;> simp only [vlen, ht]
    rfl
  simp only [evOp, ha, hts, hv, Option.map_some]
theorem o_ixsl {j : Int} {kd2 : TK} {bb : Nat} {zz : List C} {ks2 : List PK} (ho : op = .indexAddr t px py) (hx : opnd tm px = some (.c x)) (hy : opnd tm py = some (.c (.i k j))) (ht : tyAt T t = some ⟨.sl e, a1, a2, a3, a4⟩) (he : tyAt T e = some ⟨kd2, sz, bb, zz, ks2⟩) (hr : slen x = some n) (h0 : 0 ≤ j) (hj : j < n) : evOp T call op tm H = some (.c (satC sz j.toNat x), H) := by
  subst ho
  have hin : inN j n = true := by rw [inN_eq]; simp [h0, hj]
  have hv : vindexAddr T t (.c x) (.c (.i k j)) = some (.c (satC sz j.toNat x)) := by
    cases x <;> simp [slen] at hr
    · subst hr; omega
    all_goals (subst hr; simp only [vindexAddr, ht, he, hin, cond_true, satC])
  simp only [evOp, hx, hy, hv, Option.map_some]
/-- A cell that lies somewhere. -/
theorem o_ldA {c : C} {r : List C} {ti : TI} (ho : op = .load t px) (ha : opnd tm px = some (.c x)) (ht : tyAt T t = some ti) (hg : ti.agg = false) (hr : rdAt H x 1 = some (c :: r)) : evOp T call op tm H = some (.c c, H) := by
  subst ho
  simp only [evOp, ha, vload, ht, hg, cond_false, hr, Option.map_some]
theorem o_ldAg {ys : List C} {ti : TI} (ho : op = .load t px) (ha : opnd tm px = some (.c x)) (ht : tyAt T t = some ti) (hg : ti.agg = true) (hz : ti.size = n) (hr : rdAt H x n = some ys) : evOp T call op tm H = some (.ag n ys, H) := by
  subst ho; subst hz
  simp only [evOp, ha, vload, ht, hg, cond_true, hr, Option.map_some]
/-- '==' of two arrays of bytes. -/
theorem o_eqB {bop : BinOp} {p} {l m : List UInt8} {ti : TI} {z : Nat} (ho : op = .binOp .eql t px py p) (hx : opnd tm px = some (.ag z (bytesC l))) (hy : opnd tm py = some (.ag z (bytesC m))) (ht : tyAt T t = some ti) (hg : ti.agg = true) (hk : ti.ks = List.replicate z (.int .u8)) (hz : 0 < z) (hl : l.length = z) (hm : m.length = z) : evOp T call op tm H = some (.c (.b (l == m)), H) := by
  subst ho
  have k1 : kinds (bytesC l) ti.ks = true := by rw [hk, ← hl]; exact kinds_bytes l
  have k2 : kinds (bytesC m) ti.ks = true := by rw [hk, ← hm]; exact kinds_bytes m
  have k3 : ti.ks.isEmpty = false := by rw [hk]; cases z with | zero => omega | succ z => rfl
  simp only [evOp, hx, hy, vbin, ht, hg, k1, k2, k3, Bool.not_false, Bool.and_self, cond_true, ceqs_bytes, Option.map_some]
theorem o_neB {p} {l m : List UInt8} {ti : TI} {z : Nat} (ho : op = .binOp .neq t px py p) (hx : opnd tm px = some (.ag z (bytesC l))) (hy : opnd tm py = some (.ag z (bytesC m))) (ht : tyAt T t = some ti) (hg : ti.agg = true) (hk : ti.ks = List.replicate z (.int .u8)) (hz : 0 < z) (hl : l.length = z) (hm : m.length = z) : evOp T call op tm H = some (.c (.b (!(l == m))), H) := by
  subst ho
  have k1 : kinds (bytesC l) ti.ks = true := by rw [hk, ← hl]; exact kinds_bytes l
  have k2 : kinds (bytesC m) ti.ks = true := by rw [hk, ← hm]; exact kinds_bytes m
  have k3 : ti.ks.isEmpty = false := by rw [hk]; cases z with | zero => omega | succ z => rfl
  simp only [evOp, hx, hy, vbin, ht, hg, k1, k2, k3, Bool.not_false, Bool.and_self, cond_true, ceqs_bytes, Option.map_some]
/-- A text's bytes. -/
theorem o_s2b {px' : Operand} {s : List UInt8} {src dst : TypeId} {b1 b2 : Nat} {b3 : List C} {b4 : List PK} {c1 c2 : Nat} {c3 : List C} {c4 : List PK} (ho : op = .convert src dst px) (hx : opnd tm px = some (.c (.s s))) (h1 : tyAt T src = some ⟨.str, a1, a2, a3, a4⟩) (h2 : tyAt T dst = some ⟨.sl e, b1, b2, b3, b4⟩) (h3 : tyAt T e = some ⟨.int .u8, c1, c2, c3, c4⟩) (hs : s.length ≤ 140737488355328)
    (hn : L.length = n) (hl : appL L [.ror (bytesC s) s.length 1] = L') : evOp T call op tm (appL H L) = some (.c (.sl (H.length + n) 0 s.length s.length), appL H L') := by
  subst ho
  have hb : Nat.ble s.length 140737488355328 = true := by rw [ble_eq]; simpa using hs
  simp only [evOp, hx, vconvert, h1, h2, h3, hb, cond_true, len_app hn, app_app hl]
theorem allU8_bytes : ∀ (l : List UInt8), allU8 (bytesC l) = some l
  | [] => rfl
  | a :: l => by
    have ih := allU8_bytes l
    show (match allU8 (bytesC l) with
      | some l => some (UInt8.ofNat (a.toNat : Int).toNat :: l)
      | none => none) = _
    rw [ih]
    simp
/-- Bytes as a text. -/
theorem o_b2s {s : List UInt8} {src dst : TypeId} {b1 b2 : Nat} {b3 : List C} {b4 : List PK} {c1 c2 : Nat} {c3 : List C} {c4 : List PK} (ho : op = .convert src dst px) (hx : opnd tm px = some (.c x)) (h1 : tyAt T src = some ⟨.sl e, a1, a2, a3, a4⟩) (h2 : tyAt T dst = some ⟨.str, b1, b2, b3, b4⟩) (h3 : tyAt T e = some ⟨.int .u8, c1, c2, c3, c4⟩) (hr : Rows H x 1 n (bytesC s)) : evOp T call op tm H = some (.c (.s s), H) := by
  subst ho
  have hv : vconvert T H src dst (.c x) = some (.c (.s s), H) := by
    have hl := hr.len
    have h4 := hr.rdSl
    cases x <;> simp [slen] at hl <;> simp only [vconvert, h1, h2, h3, h4, allU8_bytes]
  simp only [evOp, hx, hv]
end
/-! ### bytes in variables; results -/
def lo8 (n : Int) : UInt8 := UInt8.ofNat (n % 256).toNat
theorem lo8_nat (n : Int) : ((lo8 n).toNat : Int) = n % 256 := by
  unfold lo8
  have h1 := Int.emod_nonneg n (show (256 : Int) ≠ 0 by decide)
  have h2 := Int.emod_lt_of_pos n (show (0 : Int) < 256 by decide)
  rw [UInt8.toNat_ofNat_of_lt' (by show (n % 256).toNat < 256; omega)]
  omega
theorem wrapQ_u8 (n : Int) : wrapQ .u8 n = n % 256 := by
  rw [wrapQ_eq]; simp [IntKind.wrap, IntKind.bits, IntKind.signed]
theorem wrapQ_u16 (n : Int) : wrapQ .u16 n = n % 65536 := by
  rw [wrapQ_eq]; simp [IntKind.wrap, IntKind.bits, IntKind.signed]
theorem wrapQ_u32 (n : Int) : wrapQ .u32 n = n % 4294967296 := by
  rw [wrapQ_eq]; simp [IntKind.wrap, IntKind.bits, IntKind.signed]
section
variable {T : Tys} {call : CallF} {op : Op} {tm : List V} {H H' L L' : Heap} {t e : TypeId} {px py : Operand} {k k' : IntKind} {x y : C} {sz n : Nat} {cs : List C} {a1 a2 : Nat} {a3 : List C} {a4 : List PK} {ei : TI} {a b : Int}
/-- A number's lowest byte. -/
theorem o_cv8 {src dst : TypeId} {b1 b2 : Nat} {b3 : List C} {b4 : List PK} {k1 : IntKind} (ho : op = .convert src dst px) (hx : opnd tm px = some (.c (.i k a))) (h1 : tyAt T src = some ⟨.int k1, a1, a2, a3, a4⟩) (h2 : tyAt T dst = some ⟨.int .u8, b1, b2, b3, b4⟩) : evOp T call op tm H = some (.c (.i .u8 (lo8 a).toNat), H) := by
  subst ho
  simp only [evOp, hx, vconvert, h1, h2, wrapQ_u8, lo8_nat]
/-- A number as a number of a kind that holds it. -/
theorem o_cvi {src dst : TypeId} {b1 b2 : Nat} {b3 : List C} {b4 : List PK} {k1 k2 : IntKind} (ho : op = .convert src dst px) (hx : opnd tm px = some (.c (.i k a))) (h1 : tyAt T src = some ⟨.int k1, a1, a2, a3, a4⟩) (h2 : tyAt T dst = some ⟨.int k2, b1, b2, b3, b4⟩) (h0 : 0 ≤ a) (hm : a ≤ maxN k2) : evOp T call op tm H = some (.c (.i k2 a), H) := by
  subst ho
  have hw : wrapQ k2 a = a := by
    cases a with
    | ofNat m =>
      have : Nat.ble m (maxN k2) = true := by rw [ble_eq]; simp; have : ((m : Nat) : Int) ≤ maxN k2 := hm; omega
      simp only [wrapQ, this, cond_true]
    | negSucc m => exact absurd h0 (by simp)
  simp only [evOp, hx, vconvert, h1, h2, hw]
theorem o_shr {z : TypeId} (ho : op = .binOp .shr t px py z) (hx : opnd tm px = some (.c (.i k a))) (hy : opnd tm py = some (.c (.i k' b))) (h0 : 0 ≤ b) (h1 : b ≤ k.bits) {m : Nat} (hm : 2 ^ b.toNat = m) : evOp T call op tm H = some (.c (.i k (a / m)), H) := by
  subst ho
  have hs : cshift .shr k a b = some (.i k (a / m)) := by
    unfold cshift
    rw [if_neg (by omega)]
    have e : min b.toNat k.bits = b.toNat := by omega
    simp only [e]
    rw [← hm, Int.fdiv_eq_ediv_of_nonneg _ (by exact Int.le_of_lt (Int.pow_pos (by decide)))]
    simp
  simp only [evOp, hx, hy, vbin, hs, Option.map_some]
theorem o_subw {z : TypeId} (ho : op = .binOp .sub t px py z) (hx : opnd tm px = some (.c (.i .i64 a))) (hy : opnd tm py = some (.c (.i .i64 b))) : evOp T call op tm H = some (.c (.i .i64 (wrapQ .i64 (a - b))), H) := by
  subst ho
  simp only [evOp, hx, hy, vbin, if_true, cint, Option.map_some]
theorem o_cv16 {src dst : TypeId} {b1 b2 : Nat} {b3 : List C} {b4 : List PK} {k1 : IntKind} (ho : op = .convert src dst px) (hx : opnd tm px = some (.c (.i k a))) (h1 : tyAt T src = some ⟨.int k1, a1, a2, a3, a4⟩) (h2 : tyAt T dst = some ⟨.int .u16, b1, b2, b3, b4⟩) : evOp T call op tm H = some (.c (.i .u16 (a % 65536)), H) := by
  subst ho
  simp only [evOp, hx, vconvert, h1, h2, wrapQ_u16]
theorem o_remS {z : TypeId} (ho : op = .binOp .rem t px py z) (hx : opnd tm px = some (.c (.i k a))) (hy : opnd tm py = some (.c (.i k b))) (h2 : 0 < b) : evOp T call op tm H = some (.c (.i k (a.tmod b)), H) := by
  subst ho
  have e2 : vbin T .rem t (.c (.i k a)) (.c (.i k b)) = some (V.c (C.i k (a.tmod b))) := by
    simp only [vbin, cint, if_true]
    rw [if_neg (by omega)]; rfl
  simp only [evOp, hx, hy, e2, Option.map_some]
theorem o_shl {z : TypeId} (ho : op = .binOp .shl t px py z) (hx : opnd tm px = some (.c (.i k a))) (hy : opnd tm py = some (.c (.i k' b))) (h0 : 0 ≤ b) (h1 : b ≤ k.bits) {m : Nat} (hm : 2 ^ b.toNat = m) (ha : 0 ≤ a) (h2 : a * m ≤ maxN k) : evOp T call op tm H = some (.c (.i k (a * m)), H) := by
  subst ho
  have hs : cshift .shl k a b = some (.i k (a * m)) := by
    unfold cshift
    rw [if_neg (by omega)]
    have e : min b.toNat k.bits = b.toNat := by omega
    simp only [e]
    have e2 : (2 : Int) ^ b.toNat = m := by rw [← hm]; simp
    have h3 : 0 ≤ a * (m : Int) := Int.mul_nonneg ha (by omega)
    rw [e2, wrapQ_eq, wrap_in k _ (by split <;> omega) h2]
  simp only [evOp, hx, hy, vbin, hs, Option.map_some]
theorem or_add {w j : Nat} {a b q : Int} (h0 : 0 ≤ a) (ha : a < 2 ^ j) (hq : 0 ≤ q) (hb : b = q * 2 ^ j) (hs : a + b < 2 ^ w) : ((BitVec.ofInt w a ||| BitVec.ofInt w b).toNat : Int) = a + b := by
  obtain ⟨a, rfl⟩ := Int.eq_ofNat_of_zero_le h0
  obtain ⟨q, rfl⟩ := Int.eq_ofNat_of_zero_le hq
  have ha' : a < 2 ^ j := by exact_mod_cast ha
  have hb' : b = ((q * 2 ^ j : Nat) : Int) := by rw [hb]; push_cast; rfl
  subst hb'
  have hs' : a + q * 2 ^ j < 2 ^ w := by exact_mod_cast hs
  have e1 : BitVec.ofInt w ((a : Nat) : Int) = BitVec.ofNat w a := BitVec.ofInt_natCast _ _
  have e2 : BitVec.ofInt w ((q * 2 ^ j : Nat) : Int) = BitVec.ofNat w (q * 2 ^ j) := BitVec.ofInt_natCast _ _
  rw [e1, e2, BitVec.toNat_or, BitVec.toNat_ofNat, BitVec.toNat_ofNat, Nat.mod_eq_of_lt (by omega), Nat.mod_eq_of_lt (by omega)]
  have h3 := Nat.shiftLeft_add_eq_or_of_lt ha' q
  rw [Nat.shiftLeft_eq] at h3
  rw [Nat.or_comm, ← h3]
  push_cast
  omega
/-- Two numbers that have no bit in common. -/
theorem o_or {z : TypeId} {j : Nat} {q m : Int} (ho : op = .binOp .or t px py z) (hx : opnd tm px = some (.c (.i k a))) (hy : opnd tm py = some (.c (.i k b))) (hm : (2 : Int) ^ j = m) (hq : 0 ≤ q) (hb : b = q * m) (h0 : 0 ≤ a) (ha : a < m) (hs : a + b ≤ maxN k) (hk : (maxN k : Int) < 2 ^ k.bits) : evOp T call op tm H = some (.c (.i k (a + b)), H) := by
  subst ho; subst hm
  have hp : 0 ≤ q * 2 ^ j := Int.mul_nonneg hq (Int.le_of_lt (Int.pow_pos (by decide)))
  have hv : vbin T .or t (.c (.i k a)) (.c (.i k b)) = some (.c (.i k (a + b))) := by
    simp only [vbin, if_true, cint, Option.map_some]
    rw [or_add h0 ha hq hb (by omega), wrapQ_eq, wrap_in k _ (by split <;> omega) hs]
  simp only [evOp, hx, hy, hv, Option.map_some]
theorem o_sadd {z : TypeId} {xs ys : List UInt8} (ho : op = .binOp .add t px py z) (hx : opnd tm px = some (.c (.s xs))) (hy : opnd tm py = some (.c (.s ys))) (hl : xs.length + ys.length ≤ 9223372036854775807) : evOp T call op tm H = some (.c (.s (xs ++ ys)), H) := by
  subst ho
  have : cstr .add xs ys = some (.s (xs ++ ys)) := by
    unfold cstr
    simp only
    rw [if_neg (by show ¬ (((xs.length + ys.length : Nat) : Int) > IntKind.i64.max); simp [IntKind.max, IntKind.signed, IntKind.bits]; omega)]
  simp only [evOp, hx, hy, vbin, this, Option.map_some]
/-- A part of an array that lies in a variable. -/
theorem o_slA {id off m : Nat} {kd2 : TK} {bb : Nat} {zz : List C} {ks2 : List PK} {lo hi : Operand} {l h : Int} {k1 k2 : IntKind} (ho : op = .slice t px (some lo) (some hi) none) (hx : opnd tm px = some (.c (.p id off))) (hlo : opnd tm lo = some (.c (.i k1 l))) (hhi : opnd tm hi = some (.c (.i k2 h))) (ht : tyAt T t = some ⟨.arr m e, a1, a2, a3, a4⟩) (he : tyAt T e = some ⟨kd2, sz, bb, zz, ks2⟩) (h0 : 0 ≤ l) (h1 : l ≤ h) (h2 : h ≤ m) : evOp T call op tm H = some (.c (.va id (off + l.toNat * sz) (h.toNat - l.toNat) (m - l.toNat)), H) := by
  subst ho
  have c1 : inN h (m + 1) = true := by rw [inN_eq]; simp; omega
  have c2 : inN l (h.toNat + 1) = true := by rw [inN_eq]; simp; omega
  have hv : vslice T t (.c (.p id off)) (some (.c (.i k1 l))) (some (.c (.i k2 h))) = some (.c (.va id (off + l.toNat * sz) (h.toNat - l.toNat) (m - l.toNat))) := by
    simp only [vslice, ht, he, bnds, c1, c2, cond_true]
  simp only [evOp, hx, opndO, hlo, hhi, Option.map_some, hv]
theorem Rows.vaB {H : Heap} {id off n m cap : Nat} {wr : Bool} {l : List UInt8} (hb : getL H id = some (.var wr m (bytesC l))) (hl : l.length = m) (h : off + n ≤ m) : Rows H (.va id off n cap) 1 n (bytesC ((l.drop off).take n)) := by
  have := Rows.va (sz := 1) (n := n) (cap := cap) (off := off) hb (by rw [bytesC_len, hl]) (by rw [Nat.mul_one]; exact h)
  rw [Nat.mul_one, bytesC_drop, bytesC_take] at this
  exact this
theorem o_max {as : Array Operand} {ts : Array TypeId} (ho : op = .call ⟨.builtin .max, as, ts⟩) (ha : opnds tm as.toList = some [.c (.i k a), .c (.i k b)]) : evOp T call op tm H = some (.c (.i k (max a b)), H) := by
  subst ho
  have : minC true [.c (.i k b)] (.c (.i k a)) = some (.c (.i k (max a b))) := by
    show (match min2C true (.c (.i k a)) (.c (.i k b)) with
      | some z => some z
      | none => none) = _
    simp only [min2C, Nat.beq_refl, cond_true, leI_eq]
    by_cases h : b ≤ a
    · simp only [h, decide_true, cond_true]; congr 3; omega
    · simp only [h, decide_false, cond_false]; congr 3; omega
  simp only [evOp, ha, this, Option.map_some]
theorem o_min {as : Array Operand} {ts : Array TypeId} (ho : op = .call ⟨.builtin .min, as, ts⟩) (ha : opnds tm as.toList = some [.c (.i k a), .c (.i k b)]) : evOp T call op tm H = some (.c (.i k (min a b)), H) := by
  subst ho
  have : minC false [.c (.i k b)] (.c (.i k a)) = some (.c (.i k (min a b))) := by
    show (match min2C false (.c (.i k a)) (.c (.i k b)) with
      | some z => some z
      | none => none) = _
    simp only [min2C, Nat.beq_refl, cond_true, cond_false, leI_eq]
    by_cases h : a ≤ b
    · simp only [h, decide_true, cond_true]; congr 3; omega
    · simp only [h, decide_false, cond_false]; congr 3; omega
  simp only [evOp, ha, this, Option.map_some]
theorem o_neg {z : TypeId} (ho : op = .unOp .neg z px) (hx : opnd tm px = some (.c (.i .i64 a))) (h1 : -9223372036854775808 ≤ -a) (h2 : -a ≤ 9223372036854775807) : evOp T call op tm H = some (.c (.i .i64 (-a)), H) := by
  subst ho
  simp only [evOp, hx, vun, Int.zero_sub, wrapQ_64 h1 h2, Option.map_some]
theorem o_call {f : FuncId} {as : Array Operand} {ts : Array TypeId} {vs : List V} {v : V} {H' : Heap} (ho : op = .call ⟨.value (.func f), as, ts⟩) (ha : opnds tm as.toList = some vs) (h : Vc call f vs H (v, H')) : evOp T call op tm H = some (v, H') := by
  subst ho
  simp only [evOp, ha, h.out]
/-- A place of an array that is a variable of its own, one cell each. -/
theorem o_ixa1 {id n : Nat} {j : Int} (ho : op = .indexAddr t px py) (hx : opnd tm px = some (.c (.p id 0))) (hy : opnd tm py = some (.c (.i k j))) (ht : tyAt T t = some ⟨.arr n e, a1, a2, a3, a4⟩) (he : tyAt T e = some ei) (hz : ei.size = 1) (h0 : 0 ≤ j) (hj : j < n) : evOp T call op tm H = some (.c (.p id j.toNat), H) := by
  have := o_ixa (T := T) (call := call) (H := H) ho hx hy ht he hz h0 hj
  simpa using this
theorem o_stB {id m i : Nat} {l : List UInt8} {c : UInt8} {ti : TI} (ho : op = .store t px py) (ha : opnd tm px = some (.c (.p id i))) (hx : opnd tm py = some (.c (.i .u8 c.toNat))) (ht : tyAt T t = some ti) (hn : Nat.beq 1 ti.size = true) (hb : getL H id = some (.var true m (bytesC l))) (hm : 1 < m) (hl : l.length = m) (hi : i < m) (hs : setL H (.var true m (bytesC (l.set i c))) id = some H') : evOp T call op tm H = some (.c .un, H') := by
  refine o_st1 ho ha hx rfl ht hn hb hm (by rw [bytesC_len, hl]) hi ?_
  rw [bytesC_set]; exact hs
theorem o_ldB {id m i : Nat} {wr : Bool} {l : List UInt8} {c : UInt8} {ti : TI} (ho : op = .load t px) (ha : opnd tm px = some (.c (.p id i))) (ht : tyAt T t = some ti) (hg : ti.agg = false) (hb : getL H id = some (.var wr m (bytesC l))) (hl : l.length = m) (hc : l[i]? = some c) : evOp T call op tm H = some (.c (.i .u8 c.toNat), H) :=
  o_ld1 ho ha ht hg hb (by rw [getL_eq]; exact bytesC_get hc) (by rw [bytesC_len, hl])
/-- A whole variable. -/
theorem o_ldw {id m : Nat} {wr : Bool} {kd : TK} {bb : Nat} {zz : List C} {ks : List PK} (ho : op = .load t px) (ha : opnd tm px = some (.c (.p id 0))) (ht : tyAt T t = some ⟨kd, n, bb, zz, ks⟩) (hg : TI.agg ⟨kd, n, bb, zz, ks⟩ = true) (hb : getL H id = some (.var wr m cs)) (hm : Nat.beq n m = true) : evOp T call op tm H = some (.ag n cs, H) := by
  refine o_ldv ho ha ht hg hb rfl ?_
  unfold sub
  rw [hm]; rfl
theorem o_stw {id m : Nat} {ys : List C} {v : V} {kd : TK} {bb : Nat} {zz : List C} {ks : List PK} (ho : op = .store t px py) (ha : opnd tm px = some (.c (.p id 0))) (hx : opnd tm py = some v) (hc : v.cells = some (n, ys)) (ht : tyAt T t = some ⟨kd, n, bb, zz, ks⟩) (hb : getL H id = some (.var true m cs)) (hm : Nat.beq n m = true) (hl : setL H (.var true m ys) id = some H') : evOp T call op tm H = some (.c .un, H') := by
  refine o_stv ho ha hx hc ht (Nat.beq_refl _) hb (cs' := ys) ?_ hl
  unfold splice
  rw [hm]; rfl
/-- A stretch of bytes of a variable, as an array. -/
theorem o_ldvB {id off m : Nat} {wr : Bool} {l : List UInt8} {kd : TK} {bb : Nat} {zz : List C} {ks : List PK} (ho : op = .load t px) (ha : opnd tm px = some (.c (.p id off))) (ht : tyAt T t = some ⟨kd, n, bb, zz, ks⟩) (hg : TI.agg ⟨kd, n, bb, zz, ks⟩ = true) (hb : getL H id = some (.var wr m (bytesC l))) (hl : l.length = m) (hn : off + n ≤ m) : evOp T call op tm H = some (.ag n (bytesC ((l.drop off).take n)), H) := by
  refine o_ldv ho ha ht hg hb rfl ?_
  rw [sub_of (by rw [bytesC_len, hl]) hn, bytesC_drop, bytesC_take]
/-- A byte of an array's value. -/
theorem o_ixB {l : List UInt8} {m n : Nat} {j : Int} {c : UInt8} (ho : op = .index t px py) (hx : opnd tm px = some (.ag m (bytesC l))) (hy : opnd tm py = some (.c (.i k j))) (ht : tyAt T t = some ⟨.arr n e, a1, a2, a3, a4⟩) (he : tyAt T e = some ei) (hg : ei.agg = false) (hz : ei.size = 1) (h0 : 0 ≤ j) (hj : j < n) (hc : l[j.toNat]? = some c) : evOp T call op tm H = some (.c (.i .u8 c.toNat), H) :=
  o_ixv ho hx hy ht he hg hz h0 hj (bytesC_get hc)
/-- A byte of a slice that lies somewhere. -/
theorem o_ldS {l : List UInt8} {j : Nat} {c : UInt8} {ti : TI} (ho : op = .load t px) (ha : opnd tm px = some (.c (satC 1 j x))) (ht : tyAt T t = some ti) (hg : ti.agg = false) (hr : Rows H x 1 n (bytesC l)) (hc : l[j]? = some c) : evOp T call op tm H = some (.c (.i .u8 c.toNat), H) :=
  o_ldA ho ha ht hg (hr.one (bytesC_get hc))
theorem o_allocB {n m bb : Nat} {kd : TK} {zz : List C} {ks : List PK} (ho : op = .alloc t) (ht : tyAt T t = some ⟨kd, m, bb, zz, ks⟩) (hz : zz = bytesC (List.replicate m 0)) (hn : L.length = n) (hl : appL L [.var true m (bytesC (List.replicate m 0))] = L') : evOp T call op tm (appL H L) = some (.c (.p (H.length + n) 0), appL H L') := by
  rw [← hz] at hl
  exact o_alloc ho ht hn hl
theorem o_bldZ {m z bb : Nat} {zz : List C} {ks : List PK} {el : TypeId} (ho : op = .build t #[]) (ht : tyAt T t = some ⟨.arr m el, z, bb, zz, ks⟩) (he : tyAt T el = some ei) (hz : zz = bytesC (List.replicate z 0)) : evOp T call op tm H = some (.ag z (bytesC (List.replicate z 0)), H) := by
  subst ho
  have : vbuild T t [] = some (.ag z zz) := by
    unfold vbuild
    simp only [ht, he]
    rfl
  show (vbuild T t []).map (fun v => (v, H)) = _
  rw [this, ← hz]
  rfl
/-! results that lie in variables -/
theorem resVs_nil {H : Heap} : resVs T tm H [] = some [] := rfl
theorem resVs_tmp {H : Heap} {j : Nat} {v : V} {rs : List ResultVar} {vs : List V} (h : getL tm j = some v) (k : resVs T tm H rs = some vs) : resVs T tm H (.tmp j :: rs) = some (v :: vs) := by
  simp only [resVs, resV, h, k]
theorem resVs_cell {H : Heap} {j id off m : Nat} {wr : Bool} {ys : List C} {ti : TI} {rs : List ResultVar} {vs : List V} (h : getL tm j = some (.c (.p id off))) (ht : tyAt T t = some ti) (hg : ti.agg = true) (hb : getL H id = some (.var wr m cs)) (hn : ti.size = n) (hs : sub m cs off n = some ys) (k : resVs T tm H rs = some vs) : resVs T tm H (.cell j t :: rs) = some (.ag n ys :: vs) := by
  subst hn
  simp only [resVs, resV, h, vload, ht, hg, cond_true, rdAt, hb, hs, k]
def resOf1 : List V → Option V
  | [v] => some v
  | vs => (to1s vs).map V.t
theorem res_of {fn : Func} {H : Heap} {rs : List ResultVar} {vs : List V} {v : V} (hr : fn.results.toList = rs) (h : resVs T tm H rs = some vs) (hv : resOf1 vs = some v) : res T fn ⟨tm, H⟩ = some v := by
  unfold res
  rw [hr]
  simp only [h]
  cases vs with
  | nil => exact hv
  | cons v vs => cases vs <;> exact hv
end
end Go.Proofs.Ytgbdjeofbeibiaa.Pe
