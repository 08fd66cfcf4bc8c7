/- The great call of head.Encode in a table that looks at memory. -/
import Derived.Test.YtenfmojgfngpkaaHdEnc
set_option linter.unusedVariables false
namespace Go.Proofs.Ytenfmojgfngpkaa.Pe
noncomputable def gEnc : PureH := fun f args H => bif Nat.beq f 6 then (match args with
  | [.ag m lay, .ag m2 [.sl id off len gen]] => bif Nat.beq m 9 && Nat.beq m2 1 && Nat.beq off 0 && Nat.beq len 255 && Nat.beq gen 255 && eqInts lay LAY then (match getL H id with
    | some (.row _ cs n lo sz e) => bif Nat.beq n 255 && Nat.beq lo 1 && Nat.beq sz 1 && Nat.beq e 3 && eqInts cs ALL then some (.t [.ag 1024 encAll, .c (.i .i64 0)]) else none
    | _ => none) else none
  | _ => none) else none
theorem encAll_free : ∀ (l : List Int), ∀ c ∈ (List.rec (motive := fun _ => List C) [] (fun z _ ih => byteC z 0 :: byteC z 1 :: byteC z 2 :: byteC z 3 :: ih) l : List C), c.ref = none
  | [], c, h => by cases h
  | z :: l, c, h => by
    have ih := encAll_free l c
    simp only [List.mem_cons] at h
    rcases h with rfl | rfl | rfl | rfl | h
    · rfl
    · rfl
    · rfl
    · rfl
    · exact ih h
theorem gEnc_ok : PureHOk gEnc (evG T F 100000 g25 60) := fun f args H v h => by
  unfold gEnc at h
  have h1 := (bif_some h).1
  replace h := (bif_some h).2
  have := beq_nat h1
  subst this
  split at h
  · rename_i m lay m2 id off len gen
    have h2 := (bif_some h).1
    replace h := (bif_some h).2
    simp only [Bool.and_eq_true] at h2
    obtain ⟨⟨⟨⟨⟨q1, q2⟩, q3⟩, q4⟩, q5⟩, q6⟩ := h2
    have q1 := beq_nat q1; have q2 := beq_nat q2; have q3 := beq_nat q3; have q4 := beq_nat q4; have q5 := beq_nat q5
    have q6 := eqInts_ok _ _ q6
    subst q1 q2 q3 q4 q5 q6
    split at h
    · rename_i wr cs n lo sz e hb
      have h3 := (bif_some h).1
      replace h := (bif_some h).2
      simp only [Bool.and_eq_true] at h3
      obtain ⟨⟨⟨⟨p1, p2⟩, p3⟩, p4⟩, p5⟩ := h3
      have p1 := beq_nat p1; have p2 := beq_nat p2; have p3 := beq_nat p3; have p4 := beq_nat p4
      have p5 := eqInts_ok _ _ p5
      subst p1 p2 p3 p4 p5
      cases h
      obtain ⟨⟨v, H1⟩, e1, e2⟩ := map_some cEnc
      have e2 : v = .t [.ag 1024 encAll, .c (.i .i64 0)] := e2
      subst e2
      refine ⟨?_, fun _ => 0, fun _ => id, [.row false (ALL.map (C.i .i64)) 255 1 1 3], H1, e1, ?_, ?_⟩
      · intro x hx
        simp at hx
        rcases hx with rfl | rfl
        · exact encAll_free (255 :: ALL)
        · rfl
      · intro k b hk
        cases k with
        | succ k => simp at hk
        | zero =>
          simp at hk
          subst hk
          refine ⟨rfl, ?_, _, by rw [← getL_eq]; exact hb, rfl⟩
          intro c hc
          obtain ⟨z, _, rfl⟩ := List.mem_map.1 hc
          rfl
      · intro x hx j hj
        simp at hx
        rcases hx with rfl | rfl
        · exfalso
          obtain ⟨c, hc, hcj⟩ := List.mem_filterMap.1 (show j ∈ (LAY.map (C.i .i64)).filterMap C.ref from hj)
          obtain ⟨z, _, rfl⟩ := List.mem_map.1 hc
          cases hcj
        · have : j = id := by simpa [V.refs, C.ref] using hj
          exact ⟨this.symm, by simp⟩
    · cases h
  · cases h
noncomputable def evX : Nat → CallF
  | 0 => fun _ _ _ => none
  | d + 1 => run1 T F 100000 (extH gEnc (ext g3 (evX d)))
theorem evX_ok : ∀ d, CallOk Try.prog (evX d)
  | 0 => fun f args H v H' h => by cases h
  | d + 1 => run1_ok tabOk fnsOk mixed (extH_ok (callG_ok 60) gEnc_ok (ext_ok (callG_ok 60) g3_ok (evX_ok d)))
end Go.Proofs.Ytenfmojgfngpkaa.Pe
