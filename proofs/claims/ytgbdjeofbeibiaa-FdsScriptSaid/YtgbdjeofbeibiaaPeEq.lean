/- '==' of values all of whose cells are numbers, bools or strings: cell by cell. -/
import Derived.Test.YtgbdjeofbeibiaaPeRel
set_option linter.unusedVariables false
namespace Go.Proofs.Ytgbdjeofbeibiaa.Pe
open Go.Proofs.Ytgbdjeofbeibiaa.B (run_isAgg_int run_isAgg_arr run_isAgg_struct run_part_agg isAggT isAggT_arr isAggT_struct isAggT_int valT run_eqLoop run_equalIn_arr)
def kindV : PK → Value → Prop
  | .int k, v => ∃ n, v = .int k n
  | .bool, v => ∃ x, v = .bool x
  | .str, v => ∃ s, v = .string s
  | .oth, _ => False
def veq : Value → Value → Bool
  | .int _ a, .int _ b => a == b
  | .bool a, .bool b => a == b
  | .string a, .string b => a == b
  | _, _ => false
def veqs : List Value → List Value → Bool
  | [], [] => true
  | a :: as, b :: bs => veq a b && veqs as bs
  | _, _ => false
theorem veqs_append : ∀ {as bs as' bs' : List Value}, as.length = bs.length → veqs (as ++ as') (bs ++ bs') = (veqs as bs && veqs as' bs')
  | [], [], _, _, _ => by simp [veqs]
  | a :: as, b :: bs, as', bs', h => by
    simp only [List.cons_append, veqs, veqs_append (as := as) (bs := bs) (by simpa using h), Bool.and_assoc]
  | [], b :: bs, _, _, h => by simp at h
  | a :: as, [], _, _, h => by simp at h
def flatsG (P : Program) (g : TypeId → Option (List PK)) : List Field → Nat → Option (List PK)
  | [], _ => some []
  | f :: fs, off => if f.name ≠ "_" ∧ f.offset = off then
      match g f.type with
      | some ks => if (P.info? f.type).map (·.size) = some ks.length then (match flatsG P g fs (off + ks.length) with
        | some rs => some (ks ++ rs)
        | none => none) else none
      | none => none
    else none
/-- The kinds of a type's cells, if '==' holds them against each other cell by cell. -/
def flat (P : Program) : Nat → TypeId → Option (List PK)
  | 0, _ => none
  | d + 1, t => match P.underlying t with
    | some (.int k) => some [.int k]
    | some .bool => some [.bool]
    | some .string => some [.str]
    | some (.array n e) => match flat P d e with
      | some ks => if (P.info? e).map (·.size) = some ks.length ∧ 0 < ks.length then some (List.replicate n ks).flatten else none
      | none => none
    | some (.struct fs) => if P.stoodInHeld t then none else flatsG P (flat P d) fs.toList 0
    | _ => none
abbrev Knd : List PK → List Value → Prop := All2 kindV
theorem flat_leaf {P : Program} {d : Nat} {t : TypeId} {ks : List PK} (hf : flat P (d + 1) t = some ks) (h : isAggT P t = false) : ∃ k, ks = [k] ∧ (∀ w, (isAgg t).run P w = .ok false w) ∧ ∀ a b w, kindV k a → kindV k b → (Op.equalIn (d + 1) t a b).run P w = .ok (veq a b) w := by
  cases hu : P.underlying t with
  | none => simp only [flat, hu, reduceCtorEq] at hf
  | some u =>
    cases u with
    | int k =>
      simp only [flat, hu, Option.some.injEq] at hf
      subst hf
      refine ⟨_, rfl, fun w => run_isAgg_int hu w, ?_⟩
      rintro a b w ⟨x, rfl⟩ ⟨y, rfl⟩
      simp [Op.equalIn, run_underlying hu, veq]
    | bool =>
      simp only [flat, hu, Option.some.injEq] at hf
      subst hf
      refine ⟨_, rfl, fun w => by simp [isAgg, run_underlying hu], ?_⟩
      rintro a b w ⟨x, rfl⟩ ⟨y, rfl⟩
      simp [Op.equalIn, run_underlying hu, veq]
    | string =>
      simp only [flat, hu, Option.some.injEq] at hf
      subst hf
      refine ⟨_, rfl, fun w => by simp [isAgg, run_underlying hu], ?_⟩
      rintro a b w ⟨x, rfl⟩ ⟨y, rfl⟩
      simp [Op.equalIn, run_underlying hu, veq]
    | array n e => rw [isAggT_arr hu] at h; cases h
    | struct fs => rw [isAggT_struct hu] at h; cases h
    | _ => simp only [flat, hu, reduceCtorEq] at hf
theorem run_part_flat {P : Program} {d : Nat} {t : TypeId} {ks : List PK} (hf : flat P d t = some ks) (hs : (P.info? t).map (·.size) = some ks.length) (cs : List Value) (off : Nat) (hl : off + ks.length ≤ cs.length) (w : World) :
    (part t cs.toArray off).run P w = .ok (valT P t ((cs.drop off).take ks.length)) w := by
  cases d with
  | zero => simp [flat] at hf
  | succ d =>
    cases hT : isAggT P t with
    | false =>
      obtain ⟨k, rfl, ha, _⟩ := flat_leaf hf hT
      have hlt : off < cs.length := by simp at hl; omega
      have e : (cs.drop off).take [k].length = [cs[off]] := by rw [List.drop_eq_getElem_cons hlt]; rfl
      rw [valT, hT, e]
      simp [part, ha, hlt]
    | true =>
      cases hu : P.underlying t with
      | none => simp [isAggT, hu] at hT
      | some u =>
        cases u with
        | array n e => exact run_part_agg (run_isAgg_arr hu) (isAggT_arr hu) hs cs off w
        | struct fs => exact run_part_agg (run_isAgg_struct hu) (isAggT_struct hu) hs cs off w
        | _ => simp [isAggT, hu] at hT
theorem flatten_chunk (ks : List PK) : ∀ (n i : Nat), i < n → ((List.replicate n ks).flatten.drop (i * ks.length)).take ks.length = ks
  | 0, i, h => by omega
  | n + 1, 0, _ => by simp [List.replicate_succ]
  | n + 1, i + 1, h => by
    have := flatten_chunk ks n i (by omega)
    rw [List.replicate_succ, List.flatten_cons, Nat.succ_mul, Nat.add_comm (i * ks.length), ← List.drop_drop, List.drop_left, this]
theorem veqs_parts (m : Nat) : ∀ (n : Nat) (as bs : List Value), as.length = n * m → bs.length = n * m →
    ((List.range n).all fun i => veqs ((as.drop (i * m)).take m) ((bs.drop (i * m)).take m)) = veqs as bs
  | 0, as, bs, ha, hb => by
    have h1 : as = [] := List.eq_nil_of_length_eq_zero (by simpa using ha)
    have h2 : bs = [] := List.eq_nil_of_length_eq_zero (by simpa using hb)
    subst h1; subst h2; rfl
  | n + 1, as, bs, ha, hb => by
    have ha' : (as.drop m).length = n * m := by rw [List.length_drop, ha, Nat.succ_mul]; omega
    have hb' : (bs.drop m).length = n * m := by rw [List.length_drop, hb, Nat.succ_mul]; omega
    have ih := veqs_parts m n (as.drop m) (bs.drop m) ha' hb'
    rw [List.range_succ_eq_map, List.all_cons, List.all_map]
    have e : veqs as bs = (veqs (as.take m) (bs.take m) && veqs (as.drop m) (bs.drop m)) := by
      rw [← veqs_append (by rw [List.length_take, List.length_take, ha, hb]), List.take_append_drop, List.take_append_drop]
    rw [e, ← ih]
    congr 1
    · simp
    · congr 1
      funext i
      simp only [Function.comp, List.drop_drop, Nat.succ_mul, Nat.add_comm m]
theorem run_eqFields_flats {P : Program} {d : Nat} (ih : ∀ (t : TypeId) (ks : List PK) (as bs : List Value) (w : World), flat P d t = some ks → Knd ks as → Knd ks bs →
      (Op.equalIn d t (valT P t as) (valT P t bs)).run P w = .ok (veqs as bs) w) (w : World) :
    ∀ (fs : List Field) (off : Nat) (rs : List PK) (as bs pa pb : List Value), flatsG P (flat P d) fs off = some rs → Knd rs as → Knd rs bs → pa.length = off → pb.length = off →
      (Op.eqFields d (pa ++ as).toArray (pb ++ bs).toArray fs).run P w = .ok (veqs as bs) w
  | [], off, rs, as, bs, pa, pb, hf, ha, hb, _, _ => by
    simp only [flatsG, Option.some.injEq] at hf
    subst hf
    have h1 : as = [] := List.eq_nil_of_length_eq_zero ha.1.symm
    have h2 : bs = [] := List.eq_nil_of_length_eq_zero hb.1.symm
    subst h1; subst h2
    simp [Op.eqFields, veqs]
  | f :: fs, off, rs, as, bs, pa, pb, hf, ha, hb, hpa, hpb => by
    simp only [flatsG] at hf
    split at hf
    case isFalse => cases hf
    case isTrue hn =>
      obtain ⟨hn, ho⟩ := hn
      split at hf
      case h_2 => cases hf
      case h_1 ks hk =>
        split at hf
        case isFalse => cases hf
        case isTrue hsz =>
          split at hf
          case h_2 => cases hf
          case h_1 ls hls =>
            simp only [Option.some.injEq] at hf
            subst hf
            have la := ha.1
            have lb := hb.1
            rw [List.length_append] at la lb
            have ta : (as.take ks.length).length = ks.length := by rw [List.length_take]; omega
            have tb : (bs.take ks.length).length = ks.length := by rw [List.length_take]; omega
            have ka : Knd ks (as.take ks.length) := by have := ha.take ks.length; rwa [List.take_left] at this
            have kb : Knd ks (bs.take ks.length) := by have := hb.take ks.length; rwa [List.take_left] at this
            have da : Knd ls (as.drop ks.length) := by have := ha.drop ks.length; rwa [List.drop_left] at this
            have db : Knd ls (bs.drop ks.length) := by have := hb.drop ks.length; rwa [List.drop_left] at this
            have p1 := run_part_flat hk hsz (pa ++ as) f.offset (by rw [List.length_append]; omega) w
            have p2 := run_part_flat hk hsz (pb ++ bs) f.offset (by rw [List.length_append]; omega) w
            have t1 : ((pa ++ as).drop f.offset).take ks.length = as.take ks.length := by rw [ho, ← hpa, List.drop_left]
            have t2 : ((pb ++ bs).drop f.offset).take ks.length = bs.take ks.length := by rw [ho, ← hpb, List.drop_left]
            rw [t1] at p1
            rw [t2] at p2
            have e := ih f.type ks (as.take ks.length) (bs.take ks.length) w hk ka kb
            have r := run_eqFields_flats ih w fs (off + ks.length) ls (as.drop ks.length) (bs.drop ks.length) (pa ++ as.take ks.length) (pb ++ bs.take ks.length) hls da db (by simp [hpa, ta]) (by simp [hpb, tb])
            rw [List.append_assoc, List.append_assoc, List.take_append_drop, List.take_append_drop] at r
            have hb2 : veqs as bs = (veqs (as.take ks.length) (bs.take ks.length) && veqs (as.drop ks.length) (bs.drop ks.length)) := by
              rw [← veqs_append (by rw [ta, tb]), List.take_append_drop, List.take_append_drop]
            rw [Op.eqFields, if_pos hn, hb2]
            simp only [Sem.run_bind, p1, p2, e, Result.andThen_ok]
            by_cases hq : veqs (as.take ks.length) (bs.take ks.length) = true
            · simp only [hq, Bool.not_true, Bool.false_eq_true, if_false, Bool.true_and]
              exact r
            · have hq' : veqs (as.take ks.length) (bs.take ks.length) = false := by simpa using hq
              simp only [hq', Bool.not_false, if_true, Bool.false_and, Sem.run_pure]
theorem run_equalIn_flat {P : Program} : ∀ (d : Nat) (t : TypeId) (ks : List PK) (as bs : List Value) (w : World), flat P d t = some ks → Knd ks as → Knd ks bs →
      (Op.equalIn d t (valT P t as) (valT P t bs)).run P w = .ok (veqs as bs) w
  | 0, t, ks, as, bs, w, hf, _, _ => by simp [flat] at hf
  | d + 1, t, ks, as, bs, w, hf, ha, hb => by
    have ih := run_equalIn_flat (P := P) d
    cases hT : isAggT P t with
    | false =>
      obtain ⟨k, rfl, _, he⟩ := flat_leaf hf hT
      obtain ⟨a, rfl⟩ := List.length_eq_one_iff.1 ha.1.symm
      obtain ⟨b, rfl⟩ := List.length_eq_one_iff.1 hb.1.symm
      rw [valT, valT, hT]
      have := he a b w (ha.2 0 _ _ rfl rfl) (hb.2 0 _ _ rfl rfl)
      simpa [veqs] using this
    | true =>
      cases hu : P.underlying t with
      | none => simp only [flat, hu, reduceCtorEq] at hf
      | some u =>
        cases u with
        | array n e =>
          simp only [flat, hu] at hf
          split at hf
          case h_2 => cases hf
          case h_1 ks1 hk =>
            split at hf
            case isFalse => cases hf
            case isTrue hs =>
              obtain ⟨hs, hpos⟩ := hs
              simp only [Option.some.injEq] at hf
              subst hf
              have hl : (List.replicate n ks1).flatten.length = n * ks1.length := by simp
              have la := ha.1
              have lb := hb.1
              rw [hl] at la lb
              have hse : ∀ w, (sizeOf e).run P w = .ok ks1.length w := fun w => by
                cases hi : P.info? e with
                | none => simp [hi] at hs
                | some i =>
                  have : i.size = ks1.length := by simpa [hi] using hs
                  simp [sizeOf, typeInfo, hi, this]
              rw [valT, valT, hT, if_pos rfl, if_pos rfl, ← veqs_parts ks1.length n as bs la.symm lb.symm]
              refine run_equalIn_arr hu hse _ _ w _ (fun i hi => ?_)
              have hle : i * ks1.length + ks1.length ≤ n * ks1.length := by rw [← Nat.succ_mul]; exact Nat.mul_le_mul_right _ hi
              have p1 := run_part_flat hk hs as (i * ks1.length) (by omega) w
              have p2 := run_part_flat hk hs bs (i * ks1.length) (by omega) w
              simp only [Sem.run_bind, p1, p2, Result.andThen_ok]
              have c1 := (ha.drop (i * ks1.length)).take ks1.length
              have c2 := (hb.drop (i * ks1.length)).take ks1.length
              rw [flatten_chunk ks1 n i hi] at c1 c2
              exact ih e ks1 _ _ w hk c1 c2
        | struct fs =>
          simp only [flat, hu] at hf
          split at hf
          case isTrue => cases hf
          case isFalse hst =>
            have hst' : P.stoodInHeld t = false := by simpa using hst
            have hfo : P.fieldsOf t = fs := by simp [Program.fieldsOf, hu]
            rw [valT, valT, hT, if_pos rfl, if_pos rfl, run_equalIn_struct (P := P) w d t _ _ (by rw [hfo]; exact hu) hst', hfo]
            exact run_eqFields_flats ih w fs.toList 0 ks as bs [] [] hf ha hb rfl rfl
        | _ => simp [isAggT, hu] at hT
/-! the same of cells -/
theorem pk_kind {ρ : Ren} {H : Heap} {c : C} {v : Value} {k : PK} (h : CRel ρ H c v) (hk : keq (pk c) k = true) : kindV k v := by
  cases c <;> cases k <;> simp [pk, keq] at hk <;> simp [CRel] at h
  case i.int a n b =>
    have : a = b := by
      cases a <;> cases b <;> first | rfl | (exact absurd hk (by decide))
    subst this
    exact ⟨n, h⟩
  case b.bool => exact ⟨_, h⟩
  case s.str => exact ⟨_, h⟩
theorem kinds_knd {ρ : Ren} {H : Heap} : ∀ {cs : List C} {vs : List Value} {ks : List PK}, Cels ρ H cs vs → kinds cs ks = true → Knd ks vs
  | [], [], [], _, _ => All2.nil
  | [], v :: vs, _, h, _ => by have := h.1; simp at this
  | c :: cs, [], _, h, _ => by have := h.1; simp at this
  | [], [], k :: ks, _, h => by cases h
  | c :: cs, v :: vs, [], _, h => by cases h
  | c :: cs, v :: vs, k :: ks, h, hk => by
    have h2 : (bif keq (pk c) k then kinds cs ks else false) = true := hk
    cases hq : keq (pk c) k with
    | false => simp [hq] at h2
    | true =>
      simp only [hq, cond_true] at h2
      exact All2.cons (pk_kind (h.2 0 _ _ rfl rfl).2 hq) (kinds_knd ⟨by simpa using h.1, fun i x y a b => h.2 (i + 1) x y (by simpa using a) (by simpa using b)⟩ h2)
theorem ceq_veq {ρ : Ren} {H : Heap} {a b : C} {u v : Value} {k : PK} (ha : CRel ρ H a u) (hb : CRel ρ H b v) (ka : keq (pk a) k = true) (kb : keq (pk b) k = true) : ceq a b = veq u v := by
  cases k <;> cases a <;> simp [pk, keq] at ka <;> cases b <;> simp [pk, keq] at kb <;> simp [CRel] at ha hb <;> subst ha <;> subst hb
  · simp [ceq, veq, eqI_eq]
  · simp [ceq, veq]
  · rename_i l1 l2
    have e : ((⟨l1.toArray⟩ : ByteArray) == ⟨l2.toArray⟩) = (l1.toArray == l2.toArray) := rfl
    simp only [ceq, veq]
    rw [e, Bool.eq_iff_iff]
    simp
theorem ceqs_veqs {ρ : Ren} {H : Heap} : ∀ {as bs : List C} {us vs : List Value} {ks : List PK}, Cels ρ H as us → Cels ρ H bs vs → kinds as ks = true → kinds bs ks = true → ceqs as bs = veqs us vs
  | [], bs, us, vs, [], ha, hb, _, kb => by
    obtain rfl : us = [] := List.eq_nil_of_length_eq_zero ha.1.symm
    cases bs with
    | nil =>
      obtain rfl : vs = [] := List.eq_nil_of_length_eq_zero hb.1.symm
      rfl
    | cons => cases kb
  | [], bs, us, vs, k :: ks, _, _, ka, _ => by cases ka
  | a :: as, bs, us, vs, [], _, _, ka, _ => by cases ka
  | a :: as, [], us, vs, k :: ks, _, _, _, kb => by cases kb
  | a :: as, b :: bs, [], vs, k :: ks, ha, _, _, _ => by have := ha.1; simp at this
  | a :: as, b :: bs, u :: us, [], k :: ks, _, hb, _, _ => by have := hb.1; simp at this
  | a :: as, b :: bs, u :: us, v :: vs, k :: ks, ha, hb, ka, kb => by
    have k1 : (bif keq (pk a) k then kinds as ks else false) = true := ka
    have k2 : (bif keq (pk b) k then kinds bs ks else false) = true := kb
    cases q1 : keq (pk a) k with
    | false => simp [q1] at k1
    | true =>
      cases q2 : keq (pk b) k with
      | false => simp [q2] at k2
      | true =>
        simp only [q1, cond_true] at k1
        simp only [q2, cond_true] at k2
        have e1 := ceq_veq (ha.2 0 _ _ rfl rfl).2 (hb.2 0 _ _ rfl rfl).2 q1 q2
        have e2 := ceqs_veqs (as := as) (bs := bs) (us := us) (vs := vs) (ks := ks) ⟨by simpa using ha.1, fun i x y p q => ha.2 (i + 1) x y (by simpa using p) (by simpa using q)⟩
          ⟨by simpa using hb.1, fun i x y p q => hb.2 (i + 1) x y (by simpa using p) (by simpa using q)⟩ k1 k2
        show (bif ceq a b then ceqs as bs else false) = (veq u v && veqs us vs)
        rw [e1, e2]
        cases veq u v <;> rfl
end Go.Proofs.Ytgbdjeofbeibiaa.Pe
