/- The table of pure functions: slab.inside, slab.SetU32. -/
import Derived.Test.YtenfmojgfngpkaaSetU32
import Derived.Test.YtenfmojgfngpkaaPeOk
set_option linter.unusedVariables false
namespace Go.Proofs.Ytenfmojgfngpkaa.Pe
noncomputable def gIn (args : List V) : Option V := match args with
  | [.c (.i .i64 a), .c (.i .i64 n)] => some (.c (.b (leI 0 a && leI a (wrapQ .i64 (1024 - n)))))
  | _ => none
/-- So many cells, numbers all. -/
noncomputable def numsB (cs : List C) : Nat → Bool := List.rec (motive := fun _ => Nat → Bool) (fun n => Nat.beq n 0) (fun x _ ih n => C.rec (motive := fun _ => Bool) false (fun _ _ => Nat.rec (motive := fun _ => Bool) false (fun m _ => ih m) n) (fun _ => false) (fun _ => false) false (fun _ _ => false) (fun _ _ _ => false) false (fun _ _ _ _ => false) (fun _ _ _ _ => false) (fun _ _ _ _ _ => false) false (fun _ => false) x) cs
theorem numsB_ok : ∀ (cs : List C) (n : Nat), numsB cs n = true → cs.length = n ∧ ∀ c ∈ cs, ∃ k z, c = .i k z
  | [], n, h => ⟨(beq_nat h).symm, fun c hc => by cases hc⟩
  | x :: cs, n, h => by
    cases x with
    | i k z =>
      cases n with
      | zero => cases h
      | succ n =>
        obtain ⟨h1, h2⟩ := numsB_ok cs n h
        refine ⟨by simp [h1], fun c hc => ?_⟩
        rcases List.mem_cons.1 hc with rfl | hc
        · exact ⟨k, z, rfl⟩
        · exact h2 c hc
    | _ => cases h
noncomputable def gSet (args : List V) : Option V := match args with
  | [.ag m cs, .c (.i .i64 (.ofNat a)), .c (.i .u32 v)] => bif Nat.beq m 1024 && Nat.ble a 1020 && numsB cs 1024 then (spliceL [byteC v 0, byteC v 1, byteC v 2, byteC v 3] cs a).map fun xs => .ag 1024 xs else none
  | _ => none
noncomputable def g36 : Pure := fun f args => bif Nat.beq f 14 then gIn args else none
noncomputable def g25 : Pure := fun f args => bif Nat.beq f 14 then gIn args else bif Nat.beq f 12 then gSet args else none
noncomputable def call1 : CallF := run1 T F 100000 (evF T F 100000 0)
noncomputable def call2 : CallF := run1 T F 100000 (ext g36 (evF T F 100000 0))
theorem call1_ok : CallOk Try.prog call1 := run1_ok tabOk fnsOk mixed (callOk 0)
theorem gIn_ok {call : CallF} {args : List V} {v : V} (h : gIn args = some v) : v.isFree ∧ (∀ x ∈ args, x.isFree) ∧ ∃ H', run1 T F 100000 call 14 args [] = some (v, H') := by
  unfold gIn at h
  split at h
  · rename_i a n
    cases h
    obtain ⟨v, H', h1, rfl, h3⟩ := inside_ok (call := call) a n
    refine ⟨rfl, fun x hx => ?_, H', h1⟩
    simp at hx
    rcases hx with rfl | rfl <;> rfl
  · cases h
theorem g36_ok : PureOk g36 call1 := fun f args v h => by
  unfold g36 at h
  obtain ⟨h1, h2⟩ := bif_some h
  have := beq_nat h1
  subst this
  exact gIn_ok h2
theorem call2_ok : CallOk Try.prog call2 := run1_ok tabOk fnsOk mixed (ext_ok call1_ok g36_ok (callOk 0))
theorem laid4_eq (cs : List C) (a : Nat) (v : Int) (h : a + 4 ≤ cs.length) : spliceL [byteC v 0, byteC v 1, byteC v 2, byteC v 3] cs a = some (laid4 cs a v) := by
  rw [spliceL_of _ cs a (by simpa using h)]
  congr 1
  unfold laid4
  refine List.ext_getElem? fun i => ?_
  simp only [List.getElem?_set, List.length_set, List.append_assoc]
  by_cases h1 : i < a
  · rw [List.getElem?_append_left (by simp; omega), List.getElem?_take_of_lt h1]
    simp [show ¬ a = i by omega, show ¬ a + 1 = i by omega, show ¬ a + 2 = i by omega, show ¬ a + 3 = i by omega]
  · rw [List.getElem?_append_right (by simp; omega)]
    have hm : (cs.take a).length = a := by simp; omega
    rw [hm]
    by_cases h2 : i < a + 4
    · obtain rfl | rfl | rfl | rfl : i = a ∨ i = a + 1 ∨ i = a + 2 ∨ i = a + 3 := by omega
      · simp; omega
      · simp [show a + 1 - a = 1 by omega]; omega
      · simp [show a + 2 - a = 2 by omega]; omega
      · simp [show a + 3 - a = 3 by omega]; omega
    · rw [List.getElem?_append_right (by simp; omega), List.getElem?_drop]
      simp only [List.length_cons, List.length_nil]
      simp [show ¬ a = i by omega, show ¬ a + 1 = i by omega, show ¬ a + 2 = i by omega, show ¬ a + 3 = i by omega]
      congr 1
      omega
theorem gSet_ok {call : CallF} (hin : ∀ a H, vcall call 14 [.c (.i .i64 a), .c (.i .i64 4)] H = some (.c (.b (leI 0 a && leI a 1020)), H)) {args : List V} {v : V} (h : gSet args = some v) : v.isFree ∧ (∀ x ∈ args, x.isFree) ∧ ∃ H', run1 T F 100000 call 12 args [] = some (v, H') := by
  unfold gSet at h
  split at h
  · rename_i m cs a u
    obtain ⟨h1, h2⟩ := bif_some h
    simp only [Bool.and_eq_true] at h1
    obtain ⟨⟨q1, q2⟩, q3⟩ := h1
    have q1 := beq_nat q1
    have q2 := ble_nat q2
    subst q1
    obtain ⟨hl, hc⟩ := numsB_ok cs 1024 q3
    rw [laid4_eq cs a u (by omega)] at h2
    cases h2
    obtain ⟨v, H', k1, rfl⟩ := setU32_ok (call := call) hin cs hl a q2 u
    have hb : ∀ i, (byteC u i).ref = none := fun _ => rfl
    refine ⟨fun c hc' => ?_, fun x hx => ?_, H', k1⟩
    · unfold laid4 at hc'
      rcases List.mem_or_eq_of_mem_set hc' with hc' | rfl
      · rcases List.mem_or_eq_of_mem_set hc' with hc' | rfl
        · rcases List.mem_or_eq_of_mem_set hc' with hc' | rfl
          · rcases List.mem_or_eq_of_mem_set hc' with hc' | rfl
            · obtain ⟨k, z, rfl⟩ := hc c hc'; rfl
            · rfl
          · rfl
        · rfl
      · rfl
    · simp at hx
      rcases hx with rfl | rfl | rfl
      · intro c hc'
        obtain ⟨k, z, rfl⟩ := hc c hc'; rfl
      · rfl
      · rfl
  · cases h
theorem g25_ok : PureOk g25 call2 := fun f args v h => by
  unfold g25 at h
  cases hf : Nat.beq f 14 with
  | true =>
    rw [hf] at h
    have := beq_nat hf
    subst this
    exact gIn_ok h
  | false =>
    rw [hf] at h
    obtain ⟨h1, h2⟩ := bif_some h
    have := beq_nat h1
    subst this
    exact gSet_ok (fun a H => vcall_pure (v := .c (.b (leI 0 a && leI a 1020))) rfl rfl H) h2
theorem callG_ok (d : Nat) : CallOk Try.prog (evG T F 100000 g25 d) := evG_ok tabOk fnsOk mixed call2_ok g25_ok d
end Go.Proofs.Ytenfmojgfngpkaa.Pe
