/- What all walks of this seat share: arrays as values, structs of whole numbers held against each other, blocks of memory that a call makes for itself. -/
import Derived.WalkKit
import Derived.KernelRfl
import Derived.Lib.Hide
import Derived.Laws.Rows
import Derived.Deep.QuietTactic
import Derived.BigQuiet
namespace Go.Proofs.Ytgbdjeofbeibiaa.B
open Go.RowKit

/-- A fact that the walk's simp does not look into. -/
structure Sd (p : Prop) : Prop where mk :: (out : p)
/-! ### 1. Arrays of whole numbers, as functions from places -/
def arrV (n : Nat) (k : IntKind) (f : Nat → Int) : Array Value := Array.ofFn (n := n) fun i => Value.int k (f i)
theorem arrV_size (n k f) : (arrV n k f).size = n := by simp [arrV]
theorem arrV_get (n k f) (i : Nat) (h : i < n) : (arrV n k f)[i]? = some (.int k (f i)) := by simp [arrV, h]
def upd (f : Nat → Int) (i : Nat) (x : Int) : Nat → Int := fun j => if j = i then x else f j
theorem arrV_set (n k f) (i : Nat) (x : Int) : (arrV n k f).setIfInBounds i (.int k x) = arrV n k (upd f i x) := by
  apply Array.ext
  · simp [arrV]
  · intro j h1 h2
    have h3 : j < (arrV n k f).size := by simpa using h1
    rw [Array.getElem_setIfInBounds h3]
    simp only [arrV, upd, Array.getElem_ofFn]
    by_cases h : i = j
    · subst h; simp
    · simp [h, Ne.symm h]
theorem arrV_ext {n k f g} (h : ∀ i, i < n → f i = g i) : arrV n k f = arrV n k g := by
  unfold arrV; congr 1; funext i; rw [h i i.2]
theorem arrV_inj {n k f g} (h : arrV n k f = arrV n k g) : ∀ i, i < n → f i = g i := by
  intro i hi
  have h1 := arrV_get n k f i hi
  have h2 := arrV_get n k g i hi
  rw [h, h2] at h1
  injection h1 with h1
  injection h1 with _ h1
  exact h1.symm
def zeroF : Nat → Int := fun _ => 0
theorem arrV_zero (n k) : arrV n k zeroF = (List.replicate n (Value.int k 0)).toArray := by
  apply Array.ext
  · simp [arrV]
  · intro j h1 h2; simp [arrV, zeroF]
theorem arrV_one (n k f) : (arrV n k f).all (·.oneCell') = true := by
  rw [Array.all_eq_true_iff_forall_mem]
  intro v hv
  simp only [arrV, Array.mem_ofFn] at hv
  obtain ⟨i, rfl⟩ := hv
  rfl
theorem arrV_oneL (n k f) : ∀ v ∈ (arrV n k f).toList, v.oneCell' = true := by
  intro v hv
  simp only [arrV, Array.toList_ofFn, List.mem_ofFn] at hv
  obtain ⟨i, rfl⟩ := hv
  rfl

/-! ### 2. A type's row of the table -/
theorem run_zero_of {P : Program} {t : TypeId} {z : Value} {size bytes : Nat} (h : (P.info? t).map (fun i => (i.zero, i.size, i.bytes)) = some (some z, size, bytes)) (W : World) : (zeroValue t).run P W = .ok z W := by
  obtain ⟨i, hi, h1, h2, h3⟩ := info_parts h
  simp [zeroValue, typeInfo, hi, h1]
theorem run_size_of {P : Program} {t : TypeId} {z : Value} {size bytes : Nat} (h : (P.info? t).map (fun i => (i.zero, i.size, i.bytes)) = some (some z, size, bytes)) (W : World) : (sizeOf t).run P W = .ok size W := by
  obtain ⟨i, hi, h1, h2, h3⟩ := info_parts h
  simp [sizeOf, typeInfo, hi, h2]
theorem size_of_info {P : Program} {t : TypeId} {z : Value} {size bytes : Nat} (h : (P.info? t).map (fun i => (i.zero, i.size, i.bytes)) = some (some z, size, bytes)) : (P.info? t).map (·.size) = some size := by
  obtain ⟨i, hi, h1, h2, h3⟩ := info_parts h
  simp [hi, h2]

/-! ### 3. '==' of values all of whose leaves are whole numbers -/
def flatsG (P : Program) (g : TypeId → Option (List IntKind)) : List Field → Nat → Option (List IntKind)
  | [], _ => some []
  | f :: fs, off => if f.name ≠ "_" ∧ f.offset = off then
      match g f.type with
      | some ks => if (P.info? f.type).map (·.size) = some ks.length then (match flatsG P g fs (off + ks.length) with
        | some rs => some (ks ++ rs)
        | none => none) else none
      | none => none
    else none
/-- The kinds of a type's cells, if all of them are whole numbers. -/
def flat (P : Program) : Nat → TypeId → Option (List IntKind)
  | 0, _ => none
  | d + 1, t => match P.underlying t with
    | some (.int k) => some [k]
    | some (.array n e) => match flat P d e with
      | some ks => if (P.info? e).map (·.size) = some ks.length ∧ 0 < ks.length then some (List.replicate n ks).flatten else none
      | none => none
    | some (.struct fs) => if P.stoodInHeld t then none else flatsG P (flat P d) fs.toList 0
    | _ => none
def cellsOf' (ks : List IntKind) (as : List Int) : List Value := List.zipWith Value.int ks as
theorem cellsOf'_length (ks as) (h : as.length = ks.length) : (cellsOf' ks as).length = ks.length := by simp [cellsOf', h]
def isAggT (P : Program) (t : TypeId) : Bool := match P.underlying t with | some (.struct _) | some (.array _ _) => true | _ => false
/-- A value whose cells are these. -/
def valT (P : Program) (t : TypeId) (cs : List Value) : Value := if isAggT P t then .agg cs.toArray else cs.headD undef
theorem run_isAgg_int {P : Program} {t : TypeId} {k : IntKind} (h : P.underlying t = some (.int k)) (w : World) : (isAgg t).run P w = .ok false w := by
  simp [isAgg, run_underlying h]
theorem run_isAgg_arr {P : Program} {t e : TypeId} {n : Nat} (h : P.underlying t = some (.array n e)) (w : World) : (isAgg t).run P w = .ok true w := by
  simp [isAgg, run_underlying h]
theorem run_isAgg_struct {P : Program} {t : TypeId} {fs : Array Field} (h : P.underlying t = some (.struct fs)) (w : World) : (isAgg t).run P w = .ok true w := by
  simp [isAgg, run_underlying h]
theorem flat_int {P : Program} {d : Nat} {t : TypeId} {k : IntKind} {ks : List IntKind} (hu : P.underlying t = some (.int k)) (h : flat P (d + 1) t = some ks) : ks = [k] := by
  simp only [flat, hu, Option.some.injEq] at h; exact h.symm
theorem run_part_agg {P : Program} {t : TypeId} {n : Nat} (ha : ∀ w, (isAgg t).run P w = .ok true w) (hT : isAggT P t = true) (hs : (P.info? t).map (·.size) = some n) (cs : List Value) (off : Nat) (w : World) :
    (part t cs.toArray off).run P w = .ok (valT P t ((cs.drop off).take n)) w := by
  cases hi : P.info? t with
  | none => simp [hi] at hs
  | some i =>
    have hsz : i.size = n := by simpa [hi] using hs
    have h1 : (sizeOf t).run P w = .ok n w := by simp [sizeOf, typeInfo, hi, hsz]
    have h2 : cs.toArray.extract off (off + n) = ((cs.drop off).take n).toArray := by simp [List.extract_eq_take_drop]
    simp only [part, Sem.run_bind, ha, Result.andThen_ok, if_true, h1, Sem.run_pure, valT, hT, h2]
theorem isAggT_arr {P : Program} {t e : TypeId} {n : Nat} (h : P.underlying t = some (.array n e)) : isAggT P t = true := by simp only [isAggT, h]
theorem isAggT_struct {P : Program} {t : TypeId} {fs : Array Field} (h : P.underlying t = some (.struct fs)) : isAggT P t = true := by simp only [isAggT, h]
theorem isAggT_int {P : Program} {t : TypeId} {k : IntKind} (h : P.underlying t = some (.int k)) : isAggT P t = false := by simp only [isAggT, h]
theorem run_part_flat {P : Program} {d : Nat} {t : TypeId} {ks : List IntKind} (hf : flat P d t = some ks) (hs : (P.info? t).map (·.size) = some ks.length) (cs : List Value) (off : Nat) (hl : off + ks.length ≤ cs.length) (w : World) :
    (part t cs.toArray off).run P w = .ok (valT P t ((cs.drop off).take ks.length)) w := by
  cases d with
  | zero => simp [flat] at hf
  | succ d =>
    cases hu : P.underlying t with
    | none => simp only [flat, hu, reduceCtorEq] at hf
    | some u =>
      cases u with
      | int k =>
        have := flat_int hu hf
        subst this
        have hlt : off < cs.length := by simp at hl; omega
        have e : (cs.drop off).take [k].length = [cs[off]] := by rw [List.drop_eq_getElem_cons hlt]; rfl
        rw [valT, isAggT_int hu, e]
        simp [part, run_isAgg_int hu, hlt]
      | array n e => exact run_part_agg (run_isAgg_arr hu) (isAggT_arr hu) hs cs off w
      | struct fs => exact run_part_agg (run_isAgg_struct hu) (isAggT_struct hu) hs cs off w
      | _ => simp only [flat, hu, reduceCtorEq] at hf
theorem run_eqLoop {P : Program} (w : World) (body : Nat → Sem Bool) (r : Nat → Bool) : ∀ (l : List Nat), (∀ i ∈ l, (body i).run P w = .ok (r i) w) →
    (forIn (m := Sem) l ((none, ()) : Option Bool × Unit) fun i __s => do
      let x ← body i
      if (!x) = true then pure (ForInStep.done (some false, ())) else pure (ForInStep.yield (none, ()))).run P w = .ok (if l.all r then (none, ()) else (some false, ())) w
  | [], _ => by simp
  | i :: l, h => by
    have h1 := h i (by simp)
    have ih := run_eqLoop w body r l (fun j hj => h j (by simp [hj]))
    simp only [List.forIn_cons, Sem.run_bind, h1, Result.andThen_ok, List.all_cons]
    by_cases hr : r i = true
    · simp only [hr, Bool.not_true, Bool.false_eq_true, if_false, Sem.run_pure, Result.andThen_ok, Bool.true_and]
      exact ih
    · have hr' : r i = false := by simpa using hr
      simp only [hr', Bool.not_false, if_true, Sem.run_pure, Result.andThen_ok, Bool.false_and, Bool.false_eq_true, if_false]
theorem run_equalIn_arr {P : Program} {d : Nat} {t e : TypeId} {n m : Nat} (hu : P.underlying t = some (.array n e)) (hm : ∀ w, (sizeOf e).run P w = .ok m w) (xs ys : Array Value) (w : World) (r : Nat → Bool)
    (h : ∀ i, i < n → (do let a ← part e xs (i * m); let b ← part e ys (i * m); Op.equalIn d e a b : Sem Bool).run P w = .ok (r i) w) :
    (Op.equalIn (d + 1) t (.agg xs) (.agg ys)).run P w = .ok ((List.range n).all r) w := by
  have key := run_eqLoop (P := P) w (fun i => do let a ← part e xs (i * m); let b ← part e ys (i * m); Op.equalIn d e a b) r (List.range n) (fun i hi => h i (by simpa using hi))
  simp only [bind_assoc] at key
  simp only [Op.equalIn, Sem.run_bind, run_underlying hu, Result.andThen_ok, hm, Std.Legacy.Range.forIn_eq_forIn_range', Std.Legacy.Range.size, Nat.sub_zero, Nat.add_sub_cancel, Nat.div_one]
  rw [← List.range_eq_range', key]
  simp only [Result.andThen_ok]
  cases (List.range n).all r <;> simp
/-! the lists of numbers -/
theorem cellsOf'_append (ks ls : List IntKind) (as bs : List Int) (h : as.length = ks.length) : cellsOf' (ks ++ ls) (as ++ bs) = cellsOf' ks as ++ cellsOf' ls bs := by
  unfold cellsOf'
  exact List.zipWith_append (by rw [h])
theorem beq_append {as bs as' bs' : List Int} (h : as.length = bs.length) : ((as ++ as') == (bs ++ bs')) = ((as == bs) && (as' == bs')) := by
  rw [Bool.eq_iff_iff]
  simp only [beq_iff_eq, Bool.and_eq_true]
  constructor
  · intro e; exact List.append_inj e h
  · rintro ⟨rfl, rfl⟩; rfl
theorem cells_drop_mul (ks : List IntKind) : ∀ (n : Nat) (as : List Int), as.length = n * ks.length → ∀ i, i < n →
    ((cellsOf' (List.replicate n ks).flatten as).drop (i * ks.length)).take ks.length = cellsOf' ks ((as.drop (i * ks.length)).take ks.length)
  | 0, _, _, i, hi => by omega
  | n + 1, as, hl, i, hi => by
    have hl' : (as.take ks.length).length = ks.length := by rw [List.length_take, hl, Nat.succ_mul]; omega
    have hd : (as.drop ks.length).length = n * ks.length := by rw [List.length_drop, hl, Nat.succ_mul]; omega
    have e : cellsOf' (List.replicate (n + 1) ks).flatten as = cellsOf' ks (as.take ks.length) ++ cellsOf' (List.replicate n ks).flatten (as.drop ks.length) := by
      rw [List.replicate_succ, List.flatten_cons, ← cellsOf'_append _ _ _ _ hl', List.take_append_drop]
    have e2 : (cellsOf' ks (as.take ks.length)).length = ks.length := by simp [cellsOf', hl']
    cases i with
    | zero =>
      rw [e, Nat.zero_mul, List.drop_zero, List.drop_zero, List.take_left' e2]
    | succ i =>
      have ih := cells_drop_mul ks n (as.drop ks.length) hd i (by omega)
      rw [e, Nat.succ_mul, Nat.add_comm (i * ks.length), ← List.drop_drop, List.drop_left' e2, ih, List.drop_drop]
theorem beq_parts (m : Nat) (hm : 0 < m) : ∀ (n : Nat) (as bs : List Int), as.length = n * m → bs.length = n * m →
    ((List.range n).all fun i => ((as.drop (i * m)).take m == (bs.drop (i * m)).take m)) = (as == bs)
  | 0, as, bs, ha, hb => by
    have h1 : as = [] := List.eq_nil_of_length_eq_zero (by simpa using ha)
    have h2 : bs = [] := List.eq_nil_of_length_eq_zero (by simpa using hb)
    subst h1; subst h2; rfl
  | n + 1, as, bs, ha, hb => by
    have ha' : (as.drop m).length = n * m := by rw [List.length_drop, ha, Nat.succ_mul]; omega
    have hb' : (bs.drop m).length = n * m := by rw [List.length_drop, hb, Nat.succ_mul]; omega
    have ih := beq_parts m hm n (as.drop m) (bs.drop m) ha' hb'
    rw [List.range_succ_eq_map, List.all_cons, List.all_map]
    have e : (as == bs) = ((as.take m == bs.take m) && (as.drop m == bs.drop m)) := by
      rw [← beq_append (by rw [List.length_take, List.length_take, ha, hb]), List.take_append_drop, List.take_append_drop]
    rw [e, ← ih]
    congr 1
    · simp
    · congr 1
      funext i
      simp only [Function.comp, List.drop_drop, Nat.succ_mul, Nat.add_comm m]
theorem run_eqFields_flats {P : Program} {d : Nat} (ih : ∀ (t : TypeId) (ks : List IntKind) (as bs : List Int) (w : World), flat P d t = some ks → as.length = ks.length → bs.length = ks.length →
      (Op.equalIn d t (valT P t (cellsOf' ks as)) (valT P t (cellsOf' ks bs))).run P w = .ok (as == bs) w) (w : World) :
    ∀ (fs : List Field) (off : Nat) (rs : List IntKind) (as bs : List Int) (pa pb : List Value), flatsG P (flat P d) fs off = some rs → as.length = rs.length → bs.length = rs.length → pa.length = off → pb.length = off →
      (Op.eqFields d (pa ++ cellsOf' rs as).toArray (pb ++ cellsOf' rs bs).toArray fs).run P w = .ok (as == bs) w
  | [], off, rs, as, bs, pa, pb, hf, ha, hb, _, _ => by
    simp only [flatsG, Option.some.injEq] at hf
    subst hf
    have h1 : as = [] := List.eq_nil_of_length_eq_zero (by simpa using ha)
    have h2 : bs = [] := List.eq_nil_of_length_eq_zero (by simpa using hb)
    subst h1; subst h2
    simp [Op.eqFields]
  | f :: fs, off, rs, as, bs, pa, pb, hf, ha, hb, hpa, hpb => by
    simp only [flatsG] at hf
    split at hf
    case isFalse => cases hf
    case isTrue hn =>
      obtain ⟨hn, ho⟩ := hn
      split at hf
      case h_2 => cases hf
      case h_1 ks hk =>
        split at hf
        case isFalse => cases hf
        case isTrue hsz =>
          split at hf
          case h_2 => cases hf
          case h_1 ls hls =>
            simp only [Option.some.injEq] at hf
            subst hf
            rw [List.length_append] at ha hb
            have la : (as.take ks.length).length = ks.length := by rw [List.length_take]; omega
            have lb : (bs.take ks.length).length = ks.length := by rw [List.length_take]; omega
            have da : (as.drop ks.length).length = ls.length := by rw [List.length_drop]; omega
            have db : (bs.drop ks.length).length = ls.length := by rw [List.length_drop]; omega
            have ea : cellsOf' (ks ++ ls) as = cellsOf' ks (as.take ks.length) ++ cellsOf' ls (as.drop ks.length) := by rw [← cellsOf'_append _ _ _ _ la, List.take_append_drop]
            have eb : cellsOf' (ks ++ ls) bs = cellsOf' ks (bs.take ks.length) ++ cellsOf' ls (bs.drop ks.length) := by rw [← cellsOf'_append _ _ _ _ lb, List.take_append_drop]
            have ca : (cellsOf' ks (as.take ks.length)).length = ks.length := cellsOf'_length _ _ la
            have cb : (cellsOf' ks (bs.take ks.length)).length = ks.length := cellsOf'_length _ _ lb
            have p1 := run_part_flat hk hsz (pa ++ cellsOf' (ks ++ ls) as) f.offset (by rw [ea]; simp only [List.length_append, ca]; omega) w
            have p2 := run_part_flat hk hsz (pb ++ cellsOf' (ks ++ ls) bs) f.offset (by rw [eb]; simp only [List.length_append, cb]; omega) w
            have t1 : ((pa ++ cellsOf' (ks ++ ls) as).drop f.offset).take ks.length = cellsOf' ks (as.take ks.length) := by
              rw [ho, ← hpa, List.drop_left, ea, List.take_left' ca]
            have t2 : ((pb ++ cellsOf' (ks ++ ls) bs).drop f.offset).take ks.length = cellsOf' ks (bs.take ks.length) := by
              rw [ho, ← hpb, List.drop_left, eb, List.take_left' cb]
            rw [t1] at p1
            rw [t2] at p2
            have e := ih f.type ks (as.take ks.length) (bs.take ks.length) w hk la lb
            have r := run_eqFields_flats ih w fs (off + ks.length) ls (as.drop ks.length) (bs.drop ks.length) (pa ++ cellsOf' ks (as.take ks.length)) (pb ++ cellsOf' ks (bs.take ks.length)) hls da db (by simp [hpa, ca]) (by simp [hpb, cb])
            rw [List.append_assoc, List.append_assoc, ← ea, ← eb] at r
            have hb2 : (as == bs) = ((as.take ks.length == bs.take ks.length) && (as.drop ks.length == bs.drop ks.length)) := by
              rw [← beq_append (by rw [la, lb]), List.take_append_drop, List.take_append_drop]
            rw [Op.eqFields, if_pos hn, hb2]
            simp only [Sem.run_bind, p1, p2, e, Result.andThen_ok]
            by_cases hq : (as.take ks.length == bs.take ks.length) = true
            · simp only [hq, Bool.not_true, Bool.false_eq_true, if_false, Bool.true_and]
              exact r
            · have hq' : (as.take ks.length == bs.take ks.length) = false := by simpa using hq
              simp only [hq', Bool.not_false, if_true, Bool.false_and, Sem.run_pure]
theorem run_equalIn_flat {P : Program} : ∀ (d : Nat) (t : TypeId) (ks : List IntKind) (as bs : List Int) (w : World), flat P d t = some ks → as.length = ks.length → bs.length = ks.length →
      (Op.equalIn d t (valT P t (cellsOf' ks as)) (valT P t (cellsOf' ks bs))).run P w = .ok (as == bs) w
  | 0, t, ks, as, bs, w, hf, _, _ => by simp [flat] at hf
  | d + 1, t, ks, as, bs, w, hf, ha, hb => by
    have ih := run_equalIn_flat (P := P) d
    cases hu : P.underlying t with
    | none => simp only [flat, hu, reduceCtorEq] at hf
    | some u =>
      cases u with
      | int k =>
        have := flat_int hu hf
        subst this
        obtain ⟨a, rfl⟩ := List.length_eq_one_iff.1 ha
        obtain ⟨b, rfl⟩ := List.length_eq_one_iff.1 hb
        have h1 : (([a] : List Int) == [b]) = (a == b) := by simp
        rw [valT, valT, isAggT_int hu, h1]
        exact run_equalIn_int w d t k k a b hu
      | array n e =>
        simp only [flat, hu] at hf
        split at hf
        case h_2 => cases hf
        case h_1 ks1 hk =>
          split at hf
          case isFalse => cases hf
          case isTrue hs =>
            obtain ⟨hs, hpos⟩ := hs
            simp only [Option.some.injEq] at hf
            subst hf
            have hl : (List.replicate n ks1).flatten.length = n * ks1.length := by simp
            rw [hl] at ha hb
            have hse : ∀ w, (sizeOf e).run P w = .ok ks1.length w := fun w => by
              cases hi : P.info? e with
              | none => simp [hi] at hs
              | some i =>
                have : i.size = ks1.length := by simpa [hi] using hs
                simp [sizeOf, typeInfo, hi, this]
            rw [valT, valT, isAggT_arr hu, if_pos rfl, if_pos rfl, ← beq_parts ks1.length hpos n as bs ha hb]
            refine run_equalIn_arr hu hse _ _ w _ (fun i hi => ?_)
            have hle : i * ks1.length + ks1.length ≤ n * ks1.length := by rw [← Nat.succ_mul]; exact Nat.mul_le_mul_right _ hi
            have p1 := run_part_flat hk hs (cellsOf' (List.replicate n ks1).flatten as) (i * ks1.length) (by rw [cellsOf'_length _ _ (by rw [hl]; exact ha), hl]; exact hle) w
            have p2 := run_part_flat hk hs (cellsOf' (List.replicate n ks1).flatten bs) (i * ks1.length) (by rw [cellsOf'_length _ _ (by rw [hl]; exact hb), hl]; exact hle) w
            rw [cells_drop_mul ks1 n as ha i hi] at p1
            rw [cells_drop_mul ks1 n bs hb i hi] at p2
            simp only [Sem.run_bind, p1, p2, Result.andThen_ok]
            exact ih e ks1 _ _ w hk (by rw [List.length_take, List.length_drop]; omega) (by rw [List.length_take, List.length_drop]; omega)
      | struct fs =>
        simp only [flat, hu] at hf
        split at hf
        case isTrue => cases hf
        case isFalse hst =>
          have hst' : P.stoodInHeld t = false := by simpa using hst
          have hfo : P.fieldsOf t = fs := by simp [Program.fieldsOf, hu]
          rw [valT, valT, isAggT_struct hu, if_pos rfl, if_pos rfl, run_equalIn_struct (P := P) w d t _ _ (by rw [hfo]; exact hu) hst', hfo]
          exact run_eqFields_flats ih w fs.toList 0 ks as bs [] [] hf ha hb rfl rfl
      | _ => simp only [flat, hu, reduceCtorEq] at hf
theorem run_binOp_eql_flat {P : Program} {t : TypeId} {ks : List IntKind} (hf : flat P 10000 t = some ks) (hg : isAggT P t = true) (as bs : List Int) (ha : as.length = ks.length) (hb : bs.length = ks.length) (w : World) :
    (binOp .eql t (.agg (cellsOf' ks as).toArray) (.agg (cellsOf' ks bs).toArray)).run P w = .ok (.bool (as == bs)) w := by
  have h := run_equalIn_flat (P := P) 10000 t ks as bs w hf ha hb
  rw [valT, valT, if_pos hg, if_pos hg] at h
  simp only [binOp, Op.equal, Op.maxDepth, Sem.run_bind, h, Result.andThen_ok, Sem.run_pure]
theorem run_binOp_neq_flat {P : Program} {t : TypeId} {ks : List IntKind} (hf : flat P 10000 t = some ks) (hg : isAggT P t = true) (as bs : List Int) (ha : as.length = ks.length) (hb : bs.length = ks.length) (w : World) :
    (binOp .neq t (.agg (cellsOf' ks as).toArray) (.agg (cellsOf' ks bs).toArray)).run P w = .ok (.bool (!(as == bs))) w := by
  have h := run_equalIn_flat (P := P) 10000 t ks as bs w hf ha hb
  rw [valT, valT, if_pos hg, if_pos hg] at h
  simp only [binOp, Op.equal, Op.maxDepth, Sem.run_bind, h, Result.andThen_ok, Sem.run_pure]
theorem run_eqGuard_flat {P : Program} {t : TypeId} (h : P.eqGuardType P.depth t = false) (op : BinOp) (x y : Operand) (u v : Array Value) (w : World) : (eqGuard op t x y (.agg u) (.agg v)).run P w = .ok () w := by
  cases op <;> simp [eqGuard, h]
/-- Two arrays of numbers: place by place. -/
def eqB (n : Nat) (f g : Nat → Int) : Bool := (List.ofFn fun i : Fin n => f i) == List.ofFn fun i : Fin n => g i
theorem eqB_iff {n f g} : eqB n f g = true ↔ ∀ i, i < n → f i = g i := by
  simp only [eqB, beq_iff_eq]
  constructor
  · intro h i hi
    have := congrArg (fun l => l[i]?) h
    simpa [hi] using this
  · intro h
    congr 1
    funext i
    exact h i i.2
theorem arrV_cells (n k f) : arrV n k f = (cellsOf' (List.replicate n [k]).flatten (List.ofFn fun i : Fin n => f i)).toArray := by
  have e : (List.replicate n [k]).flatten = List.replicate n k := by
    induction n with
    | zero => rfl
    | succ n ih => rw [List.replicate_succ, List.flatten_cons, ih]; rfl
  rw [e]
  apply Array.ext'
  apply List.ext_getElem?
  intro i
  simp only [arrV, Array.toList_ofFn, cellsOf', List.getElem?_ofFn, List.getElem?_zipWith, List.getElem?_replicate]
  by_cases h : i < n
  · simp [h]
  · simp [h]
theorem run_eql_arr {P : Program} {t : TypeId} {k : IntKind} {n : Nat} (hf : flat P 10000 t = some (List.replicate n [k]).flatten) (hg : isAggT P t = true) (f g : Nat → Int) (w : World) :
    (binOp .eql t (.agg (arrV n k f)) (.agg (arrV n k g))).run P w = .ok (.bool (eqB n f g)) w := by
  rw [arrV_cells, arrV_cells]
  exact run_binOp_eql_flat hf hg _ _ (by simp) (by simp) w
theorem run_neq_arr {P : Program} {t : TypeId} {k : IntKind} {n : Nat} (hf : flat P 10000 t = some (List.replicate n [k]).flatten) (hg : isAggT P t = true) (f g : Nat → Int) (w : World) :
    (binOp .neq t (.agg (arrV n k f)) (.agg (arrV n k g))).run P w = .ok (.bool (!eqB n f g)) w := by
  rw [arrV_cells, arrV_cells]
  exact run_binOp_neq_flat hf hg _ _ (by simp) (by simp) w
/-! ### 4. Steps over arrays -/
section
variable {P : Program} {ops : Array Oper} {rest : List Oper} {o : Oper} {a : Act} {w : World} {Q : Exit → Act → World → Prop}
/-- A whole variable is loaded. -/
theorem ld_arr (ty : TypeId) {x : Operand} (ho : o.op = .load ty x) (hgd : o.guard = none) {n : Nat} {k : IntKind} {f : Nat → Int} (hsz : (P.info? ty).map (·.size) = some n) (hT : isAggT P ty = true)
    {g : Nat} {t : TypeId} {fr : Nat × Nat} (hx : a.eval x = .pointer (some ⟨g, 0, none⟩)) (hg : w.heap[g]? = some (.cells (arrV n k f) t fr))
    (h : wpList P ops Q rest (a.put o.dst (.agg (arrV n k f))) w) : wpList P ops Q (o :: rest) a w := by
  cases hu : P.underlying ty with
  | none => simp [isAggT, hu] at hT
  | some d =>
    cases d with
    | struct fs => exact wpList_load_row hgd ty x ho g hx t (arrV n k f) fr _ hg hu rfl (by rw [arrV_size]; exact hsz) h
    | array m e => exact wpList_load_row hgd ty x ho g hx t (arrV n k f) fr _ hg hu rfl (by rw [arrV_size]; exact hsz) h
    | _ => simp [isAggT, hu] at hT
/-- A whole variable is stored; what is known of the world behind it. -/
theorem st_arr (ty : TypeId) {x y : Operand} (ho : o.op = .store ty x y) (hgd : o.guard = none) (hdst : o.dst = none) {n : Nat} {k k' : IntKind} {f f' : Nat → Int} (hsz : (P.info? ty).map (·.size) = some n)
    {g : Nat} {t : TypeId} (hx : a.eval x = .pointer (some ⟨g, 0, none⟩)) (hy : a.eval y = .agg (arrV n k f)) (hg : w.heap[g]? = some (.cells (arrV n k' f') t (0, 0)))
    (h : ∀ w1, w1.heap[g]? = some (.cells (arrV n k f) t (0, 0)) → w.grownBy w1 (some g) → wpList P ops Q rest a w1) : wpList P ops Q (o :: rest) a w := by
  refine wpList_store_row hgd ty x y ho g (arrV n k f) hx hy t (arrV n k' f') hg (by rw [arrV_size]; exact hsz) (by rw [arrV_size, arrV_size]) (arrV_one n k f) ?_
  rw [hdst]
  exact h _ (setRow_heap w g _ _ t _ hg) ⟨rfl, rfl, rfl, by simp, fun i hi hne => setRow_other w g i _ (fun e => hne (by rw [e]))⟩
/-- A value that an operation comes to by a run that is known. -/
theorem val_step (op : Op) (_ho : o.op = op) (hgd : o.guard = none) {v : Value} (hrun : (execOp a.eval o).run P w = .ok (.value v) w) (h : wpList P ops Q rest (a.put o.dst v) w) : wpList P ops Q (o :: rest) a w := by
  refine wpList_plain hgd fun K hK => ?_
  unfold Oper.wp
  rw [hrun]
  exact hK _ _ h
theorem eql_arr (t : TypeId) {t2 : TypeId} {x y : Operand} (ho : o.op = .binOp .eql t x y t2) (hgd : o.guard = none) {n : Nat} {k : IntKind} {f g : Nat → Int} (hf : flat P 10000 t = some (List.replicate n [k]).flatten) (hT : isAggT P t = true) (hq : P.eqGuardType P.depth t = false)
    (hx : a.eval x = .agg (arrV n k f)) (hy : a.eval y = .agg (arrV n k g)) (h : wpList P ops Q rest (a.put o.dst (.bool (eqB n f g))) w) : wpList P ops Q (o :: rest) a w := by
  refine val_step _ ho hgd ?_ h
  simp only [execOp, ho, Sem.run_bind, hx, hy, run_eqGuard_flat hq, run_eql_arr hf hT, Result.andThen_ok, Sem.run_pure]
theorem neq_arr (t : TypeId) {t2 : TypeId} {x y : Operand} (ho : o.op = .binOp .neq t x y t2) (hgd : o.guard = none) {n : Nat} {k : IntKind} {f g : Nat → Int} (hf : flat P 10000 t = some (List.replicate n [k]).flatten) (hT : isAggT P t = true) (hq : P.eqGuardType P.depth t = false)
    (hx : a.eval x = .agg (arrV n k f)) (hy : a.eval y = .agg (arrV n k g)) (h : wpList P ops Q rest (a.put o.dst (.bool (!eqB n f g))) w) : wpList P ops Q (o :: rest) a w := by
  refine val_step _ ho hgd ?_ h
  simp only [execOp, ho, Sem.run_bind, hx, hy, run_eqGuard_flat hq, run_neq_arr hf hT, Result.andThen_ok, Sem.run_pure]
/-- One place of an array is stored. -/
theorem st_cell (ty : TypeId) {x y : Operand} (ho : o.op = .store ty x y) (hgd : o.guard = none) (hdst : o.dst = none) {n : Nat} {k : IntKind} {f : Nat → Int} {v : Int} (hsz : (P.info? ty).map (·.size) = some 1)
    {g i : Nat} {t : TypeId} (hx : a.eval x = .pointer (some ⟨g, i, none⟩)) (hy : a.eval y = .int k v) (hg : w.heap[g]? = some (.cells (arrV n k f) t (0, 0))) (hi : i < n)
    (h : ∀ w1, w1.heap[g]? = some (.cells (arrV n k (upd f i v)) t (0, 0)) → w.grownBy w1 (some g) → wpList P ops Q rest a w1) : wpList P ops Q (o :: rest) a w := by
  refine wpList_plain hgd fun K hK => ?_
  have hcell : w.cell? ⟨g, i, none⟩ = some (.int k (f i)) := (cell_of_row w g i _ t (0, 0) hg).trans (arrV_get n k f i hi)
  have hfro : w.frozen? ⟨g, i, none⟩ = false := by simp [World.frozen?, hg]
  have hst : (storeVar ty ⟨g, i, none⟩ (.int k v)).run P w = .ok () (w.setCell ⟨g, i, none⟩ (.int k v)) := by
    cases hq : P.info? ty with
    | none => simp [hq] at hsz
    | some ti =>
      have hs : ti.size = 1 := by simpa [hq] using hsz
      have hadd : (⟨g, i, none⟩ : Addr).add 0 = ⟨g, i, none⟩ := rfl
      simp [storeVar, sizeOf, typeInfo, hq, Value.cells, hs, storeCells, hadd, run_store P w _ (.int k v) _ rfl, hcell, hfro]
  unfold Oper.wp execOp
  simp only [ho, hx, hy, Instr.storeAt, Instr.sureAddr, Sem.run_bind, Sem.run_pure, Result.andThen_ok, hst]
  show K (a.put o.dst undef) _
  rw [hdst]
  refine hK _ _ (h _ ?_ ⟨rfl, rfl, rfl, by simp [World.setCell], fun j hj hne => ?_⟩)
  · rw [← arrV_set]
    simp [World.setCell, Array.getElem?_modify, hg]
  · simp only [World.setCell, Array.getElem?_modify]
    rw [if_neg (fun e => hne (by rw [e]))]
/-- One place of an array is loaded. -/
theorem ld_cell (ty : TypeId) {x : Operand} (ho : o.op = .load ty x) (hgd : o.guard = none) {n : Nat} {k : IntKind} {f : Nat → Int} (hT : ∃ k', P.underlying ty = some (.int k'))
    {g i : Nat} {t : TypeId} {fr : Nat × Nat} (hx : a.eval x = .pointer (some ⟨g, i, none⟩)) (hg : w.heap[g]? = some (.cells (arrV n k f) t fr)) (hi : i < n)
    (h : wpList P ops Q rest (a.put o.dst (.int k (f i))) w) : wpList P ops Q (o :: rest) a w := by
  obtain ⟨k', hT⟩ := hT
  refine val_step _ ho hgd ?_ h
  have hcell : w.cell? ⟨g, i, none⟩ = some (.int k (f i)) := (cell_of_row w g i _ t fr hg).trans (arrV_get n k f i hi)
  have hl : (loadVar ty ⟨g, i, none⟩).run P w = .ok (.int k (f i)) w := by
    simp [loadVar, run_isAgg_int hT, run_load, hcell]
  simp only [execOp, ho, hx, Instr.loadAt, Instr.sureAddr, Sem.run_bind, Sem.run_pure, Result.andThen_ok, hl]
end
/-! ### 5. Worlds -/
theorem pblk {w w1 : World} {g g' : Nat} {o : Obj} (h : w.heap[g]? = some o) (hg : w.grownBy w1 (some g')) (hne : g ≠ g') : w1.heap[g]? = some o :=
  (hg.block g (Array.getElem?_eq_some_iff.1 h).1 (fun e => hne (by injection e))).trans h
theorem bblk {w w1 : World} {g : Nat} {o : Obj} (h : w.heap[g]? = some o) (hb : Below w.heap.size w w1) : w1.heap[g]? = some o :=
  (hb.block g (Array.getElem?_eq_some_iff.1 h).1).trans h
theorem bgrow {B : Nat} {w w1 w2 : World} {g : Nat} (h : Below B w w1) (hB : B ≤ w1.heap.size) (hg : w1.grownBy w2 (some g)) (hBg : B ≤ g) : Below B w w2 :=
  h.grown hg hB (fun k hk => by injection hk with hk; omega)
theorem bthen {B : Nat} {w w1 w2 : World} (h : Below B w w1) (hB : B ≤ w1.heap.size) (k : Below w1.heap.size w1 w2) : Below B w w2 :=
  h.trans ⟨k.os, k.tape, k.output, k.size, fun i hi => k.block i (Nat.lt_of_lt_of_le hi hB)⟩
theorem b1 (w : World) (o : Obj) : Below w.heap.size w (w.alloc o) := (Below.refl _ _).alloc (Nat.le_refl _) _
theorem b2 (w : World) (o p : Obj) : Below w.heap.size w ((w.alloc o).alloc p) := (b1 w o).alloc (by simp) _
theorem b3 (w : World) (o p q : Obj) : Below w.heap.size w (((w.alloc o).alloc p).alloc q) := (b2 w o p).alloc (by simp; omega) _
theorem bdrewN {B : Nat} {w W : World} (h : Below B w W) (n : Nat) : Below B w (W.drewN n) := ⟨h.os, h.tape, h.output, h.size, h.block⟩
theorem blk_cell {w : World} {g : Nat} {t : TypeId} {cs : Array Value} (h : w.heap[g]? = some (.cells cs t (0, 0))) (i : Nat) : w.cell? ⟨g, i, none⟩ = cs[i]? := cell_of_row w g i cs t (0, 0) h
/-! ### 6. A region that draws its order, whose calls make memory and change nothing that was there -/
/-- What was there is there. -/
def Cls (W w' : World) : Prop := Below W.heap.size W w'
theorem cls_drawn (W : World) : Cls W { W with drawn := W.drawn + 1 } := ⟨rfl, rfl, rfl, Nat.le_refl _, fun _ _ => rfl⟩
theorem cls_const (W : World) (p : Prop) : (∀ w', Cls W w' → p) = p := propext ⟨fun h => h _ (cls_drawn W), fun h _ _ => h⟩
theorem cls_self (W : World) (p : World → Prop) : (∀ w', Cls W w' → (w' = w' ∧ p w')) = (∀ w', Cls W w' → p w') := propext ⟨fun h w' hw => (h w' hw).2, fun h w' hw => ⟨rfl, h w' hw⟩⟩
theorem cls_then {W w1 w2 : World} (h : Cls W w1) (k : Below w1.heap.size w1 w2) : Cls W w2 := bthen h h.size k
theorem cls_blk {W w' : World} {g : Nat} {o : Obj} (h : W.heap[g]? = some o) (hc : Cls W w') : w'.heap[g]? = some o := bblk h hc
section
variable {P : Program} {ops : Array Oper} {o : Oper} {a : Act} {C : World → Prop} {K : Act → Prop}
theorem q_val {v : Value} (hrun : ∀ w, C w → (execOp a.eval o).run P w = .ok (.value v) w) (h : K (a.put o.dst v)) : o.quiet P a C K :=
  ⟨v, fun w hw => by unfold Oper.quietAt; rw [hrun w hw]; exact ⟨rfl, rfl⟩, h⟩
theorem q_call {f : FuncId} {as : Array Operand} {ts : Array TypeId} (ho : o.op = .call { callee := .value (.func f), args := as, argTypes := ts }) {fn : Func} (hf : P.funcs[f]? = some fn) (hname : (fn.name == "runtime.NumGoroutine") = false) (hb : fn.body.isSome = true) {args : Array Value} (hargs : as.map a.eval = args)
    {v : Value} (hc : ∀ w, C w → Calls P f args w fun e w' => e = .returned v ∧ C w') (h : K (a.put o.dst v)) : o.quiet P a C K := by
  refine ⟨v, fun w hw => ?_, h⟩
  have he : (callFunc f args).run P w = .ok (.enter f args) w := by
    have h1 : fn.name ≠ "runtime.NumGoroutine" := by simpa using hname
    obtain ⟨c, hc⟩ := Option.isSome_iff_exists.1 hb
    simp [callFunc, hf, h1, hc]
  have hrun : (execOp a.eval o).run P w = .ok (.enter f args) w := by
    unfold execOp
    simp [ho, resolve, Deferred.ofValue, invoke, Act.eval, hargs, he]
  unfold Oper.quietAt
  rw [hrun]
  exact ⟨rfl, hc w hw⟩
theorem q_ld_arr (ty : TypeId) {x : Operand} (ho : o.op = .load ty x) {n : Nat} {k : IntKind} {f : Nat → Int} (hsz : (P.info? ty).map (·.size) = some n) (hT : isAggT P ty = true)
    {g : Nat} {t : TypeId} {fr : Nat × Nat} (hx : a.eval x = .pointer (some ⟨g, 0, none⟩)) (hg : ∀ w, C w → w.heap[g]? = some (.cells (arrV n k f) t fr))
    (h : K (a.put o.dst (.agg (arrV n k f)))) : o.quiet P a C K := by
  refine q_val (fun w hw => ?_) h
  have hl : (loadVar ty ⟨g, 0, none⟩).run P w = .ok (.agg (arrV n k f)) w := by
    cases hu : P.underlying ty with
    | none => simp [isAggT, hu] at hT
    | some d =>
      cases d with
      | struct fs => exact run_loadVar_row w g t ty (arrV n k f) fr _ (hg w hw) hu rfl (by rw [arrV_size]; exact hsz)
      | array m e => exact run_loadVar_row w g t ty (arrV n k f) fr _ (hg w hw) hu rfl (by rw [arrV_size]; exact hsz)
      | _ => simp [isAggT, hu] at hT
  simp only [execOp, ho, hx, Instr.loadAt, Instr.sureAddr, Sem.run_bind, Sem.run_pure, Result.andThen_ok, hl]
theorem q_eql_arr (t : TypeId) {t2 : TypeId} {x y : Operand} (ho : o.op = .binOp .eql t x y t2) {n : Nat} {k : IntKind} {f g : Nat → Int} (hf : flat P 10000 t = some (List.replicate n [k]).flatten) (hT : isAggT P t = true) (hq : P.eqGuardType P.depth t = false)
    (hx : a.eval x = .agg (arrV n k f)) (hy : a.eval y = .agg (arrV n k g)) {b : Bool} (hb : eqB n f g = b) (h : K (a.put o.dst (.bool b))) : o.quiet P a C K := by
  refine q_val (fun w _ => ?_) h
  simp only [execOp, ho, Sem.run_bind, hx, hy, run_eqGuard_flat hq, run_eql_arr hf hT, Result.andThen_ok, Sem.run_pure, hb]
theorem q_neq_arr (t : TypeId) {t2 : TypeId} {x y : Operand} (ho : o.op = .binOp .neq t x y t2) {n : Nat} {k : IntKind} {f g : Nat → Int} (hf : flat P 10000 t = some (List.replicate n [k]).flatten) (hT : isAggT P t = true) (hq : P.eqGuardType P.depth t = false)
    (hx : a.eval x = .agg (arrV n k f)) (hy : a.eval y = .agg (arrV n k g)) {b : Bool} (hb : (!eqB n f g) = b) (h : K (a.put o.dst (.bool b))) : o.quiet P a C K := by
  refine q_val (fun w _ => ?_) h
  simp only [execOp, ho, Sem.run_bind, hx, hy, run_eqGuard_flat hq, run_neq_arr hf hT, Result.andThen_ok, Sem.run_pure, hb]
end
theorem eqB_refl (n : Nat) (f : Nat → Int) : eqB n f f = true := eqB_iff.2 fun _ _ => rfl
theorem wp_region_cls {P : Program} {id : Nat} {Q : Exit → Act → World → Prop} {a : Act} {w : World} {l : List Oper} (hm : P.follows .mixedOrders = true) (hB : Region.lexB .any l.toArray = true)
    (h : wpQuiet P l.toArray (Cls w) (fun a' => ∀ w', Cls w w' → Q .normal a' w') l a) : (Code.region id l.toArray true).wp P Q a w :=
  wp_region_quiet (C := Cls w) hm hB (cls_drawn w) (by simpa using h)
/-! ### 7. Slices of an array -/
section
variable {P : Program} {ops : Array Oper} {rest : List Oper} {o : Oper} {a : Act} {w : World} {Q : Exit → Act → World → Prop}
theorem run_sliceArr {t e : TypeId} {n g p q : Nat} (hu : P.underlying t = some (.array n e)) (hsz : (P.info? e).map (·.size) = some 1) (lo hi : Option Value) (hb : (Instr.sliceBounds false n n lo hi none).run P w = .ok (p, q, n) w) (hp : p < n ∨ p = 0) :
    (Instr.sliceAt t (.pointer (some ⟨g, 0, none⟩)) lo hi none).run P w = .ok (.slice (some ⟨g, p, none⟩) (q - p) (n - p)) w := by
  have hs : (sizeOf e).run P w = .ok 1 w := by
    cases hi : P.info? e with
    | none => simp [hi] at hsz
    | some i =>
      have : i.size = 1 := by simpa [hi] using hsz
      simp [sizeOf, typeInfo, hi, this]
  have ha : (if n = p then (⟨g, 0, none⟩ : Addr) else (⟨g, 0, none⟩ : Addr).add (p * 1)) = ⟨g, p, none⟩ := by
    rcases hp with hp | rfl
    · rw [if_neg (by omega)]; unfold Addr.add; split <;> simp_all
    · split <;> rfl
  simp only [Instr.sliceAt, Sem.run_bind, run_underlying hu, Result.andThen_ok, Instr.sureAddr, Sem.run_pure, hb, hs, ha]
theorem sl_lh (t e : TypeId) {x l h : Operand} (ho : o.op = .slice t x (some l) (some h) none) (hgd : o.guard = none) {n g p q : Nat} {k k' : IntKind} (hu : P.underlying t = some (.array n e)) (hsz : (P.info? e).map (·.size) = some 1)
    (hx : a.eval x = .pointer (some ⟨g, 0, none⟩)) (hl : a.eval l = .int k (p : Int)) (hh : a.eval h = .int k' (q : Int)) (hpq : p ≤ q) (hqn : q ≤ n) (hp : p < n ∨ p = 0)
    (hK : wpList P ops Q rest (a.put o.dst (.slice (some ⟨g, p, none⟩) (q - p) (n - p))) w) : wpList P ops Q (o :: rest) a w := by
  refine val_step _ ho hgd ?_ hK
  have hb : (Instr.sliceBounds false n n (some (.int k (p : Int))) (some (.int k' (q : Int))) none).run P w = .ok (p, q, n) w := by
    simp [Instr.sliceBounds, run_sliceBound, hpq, hqn]
  simp only [execOp, ho, Option.map_some, Option.map_none, hx, hl, hh, Sem.run_bind, run_sliceArr hu hsz _ _ hb hp, Result.andThen_ok, Sem.run_pure]
theorem sl_h (t e : TypeId) {x h : Operand} (ho : o.op = .slice t x none (some h) none) (hgd : o.guard = none) {n g q : Nat} {k' : IntKind} (hu : P.underlying t = some (.array n e)) (hsz : (P.info? e).map (·.size) = some 1)
    (hx : a.eval x = .pointer (some ⟨g, 0, none⟩)) (hh : a.eval h = .int k' (q : Int)) (hqn : q ≤ n)
    (hK : wpList P ops Q rest (a.put o.dst (.slice (some ⟨g, 0, none⟩) q n)) w) : wpList P ops Q (o :: rest) a w := by
  refine val_step _ ho hgd ?_ hK
  have hb : (Instr.sliceBounds false n n none (some (.int k' (q : Int))) none).run P w = .ok (0, q, n) w := by
    simp [Instr.sliceBounds, run_sliceBound, hqn]
  simp only [execOp, ho, Option.map_some, Option.map_none, hx, hh, Sem.run_bind, run_sliceArr hu hsz _ _ hb (.inr rfl), Result.andThen_ok, Sem.run_pure, Nat.sub_zero]
theorem sl_l (t e : TypeId) {x l : Operand} (ho : o.op = .slice t x (some l) none none) (hgd : o.guard = none) {n g p : Nat} {k : IntKind} (hu : P.underlying t = some (.array n e)) (hsz : (P.info? e).map (·.size) = some 1)
    (hx : a.eval x = .pointer (some ⟨g, 0, none⟩)) (hl : a.eval l = .int k (p : Int)) (hp : p < n)
    (hK : wpList P ops Q rest (a.put o.dst (.slice (some ⟨g, p, none⟩) (n - p) (n - p))) w) : wpList P ops Q (o :: rest) a w := by
  refine val_step _ ho hgd ?_ hK
  have hb : (Instr.sliceBounds false n n (some (.int k (p : Int))) none none).run P w = .ok (p, n, n) w := by
    have : p ≤ n := by omega
    simp [Instr.sliceBounds, run_sliceBound, this]
  simp only [execOp, ho, Option.map_some, Option.map_none, hx, hl, Sem.run_bind, run_sliceArr hu hsz _ _ hb (.inl hp), Result.andThen_ok, Sem.run_pure]
theorem sl_all (t e : TypeId) {x : Operand} (ho : o.op = .slice t x none none none) (hgd : o.guard = none) {n g : Nat} (hu : P.underlying t = some (.array n e)) (hsz : (P.info? e).map (·.size) = some 1)
    (hx : a.eval x = .pointer (some ⟨g, 0, none⟩))
    (hK : wpList P ops Q rest (a.put o.dst (.slice (some ⟨g, 0, none⟩) n n)) w) : wpList P ops Q (o :: rest) a w := by
  refine val_step _ ho hgd ?_ hK
  have hb : (Instr.sliceBounds false n n none none none).run P w = .ok (0, n, n) w := by
    simp [Instr.sliceBounds]
  simp only [execOp, ho, Option.map_none, hx, Sem.run_bind, run_sliceArr hu hsz _ _ hb (.inr rfl), Result.andThen_ok, Sem.run_pure, Nat.sub_zero]
end
theorem add_at (g p j : Nat) : (⟨g, p, none⟩ : Addr).add j = ⟨g, p + j, none⟩ := by unfold Addr.add; split <;> simp_all
/-! ### 8. Looks ahead of a dear step -/
section
variable {P : Program} {ops : Array Oper} {rest : List Oper} {o : Oper} {a : Act} {W : World} {Q : Exit → Act → World → Prop}
theorem drop_guard (hw : Region.wanted o (yielded ops a.tmps) = true) (h : wpList P ops Q ({ o with guard := none } :: rest) a W) : wpList P ops Q (o :: rest) a W := by
  unfold wpList at h ⊢
  rw [if_pos (by simp [Region.wanted])] at h
  rw [if_pos hw]
  exact h
theorem gload (t : TypeId) {x : Operand} (_ho : o.op = .load t x) (hw : Region.wanted o (yielded ops a.tmps) = true) (h : wpList P ops Q ({ o with guard := none } :: rest) a W) : wpList P ops Q (o :: rest) a W := drop_guard hw h
theorem gstore (t : TypeId) {x y : Operand} (_ho : o.op = .store t x y) (hw : Region.wanted o (yielded ops a.tmps) = true) (h : wpList P ops Q ({ o with guard := none } :: rest) a W) : wpList P ops Q (o :: rest) a W := drop_guard hw h
theorem gbin (b : BinOp) (t : TypeId) {t2 : TypeId} {x y : Operand} (_ho : o.op = .binOp b t x y t2) (hw : Region.wanted o (yielded ops a.tmps) = true) (h : wpList P ops Q ({ o with guard := none } :: rest) a W) : wpList P ops Q (o :: rest) a W := drop_guard hw h
theorem gapp {xs : Array Operand} {ts : Array TypeId} (_ho : o.op = .call { callee := .builtin .append, args := xs, argTypes := ts }) (hw : Region.wanted o (yielded ops a.tmps) = true) (h : wpList P ops Q ({ o with guard := none } :: rest) a W) : wpList P ops Q (o :: rest) a W := drop_guard hw h
theorem gdst (N : Tmp) (_ho : o.dst = some N) (h : wpList P ops Q (o :: rest) a W) : wpList P ops Q (o :: rest) a W := h
theorem gslice (t : TypeId) {x : Operand} {l h' m : Option Operand} (_ho : o.op = .slice t x l h' m) (hw : Region.wanted o (yielded ops a.tmps) = true) (h : wpList P ops Q ({ o with guard := none } :: rest) a W) : wpList P ops Q (o :: rest) a W := drop_guard hw h
theorem sub_step (t : TypeId) {t2 : TypeId} {x y : Operand} (ho : o.op = .binOp .sub t x y t2) (hgd : o.guard = none) {k : IntKind} {p q d : Int} (hx : a.eval x = .int k p) (hy : a.eval y = .int k q) (hd : k.wrap (p - q) = d)
    (h : wpList P ops Q rest (a.put o.dst (.int k d)) W) : wpList P ops Q (o :: rest) a W := by
  refine val_step _ ho hgd ?_ h
  simp [execOp, ho, hx, hy, eqGuard, binOp, Op.intArith, ← hd]
theorem add_step (t : TypeId) {t2 : TypeId} {x y : Operand} (ho : o.op = .binOp .add t x y t2) (hgd : o.guard = none) {k : IntKind} {p q d : Int} (hx : a.eval x = .int k p) (hy : a.eval y = .int k q) (hd : k.wrap (p + q) = d)
    (h : wpList P ops Q rest (a.put o.dst (.int k d)) W) : wpList P ops Q (o :: rest) a W := by
  refine val_step _ ho hgd ?_ h
  simp [execOp, ho, hx, hy, eqGuard, binOp, Op.intArith, ← hd]
end
end Go.Proofs.Ytgbdjeofbeibiaa.B
