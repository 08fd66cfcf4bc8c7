/- The walks of the two small questions on places: inside, and span. -/
import Derived.Test.YtiafeogjknilmaaFacts
import Derived.Test.YtiafeogjknilmaaPieceP
import Derived.Outline
set_option linter.unusedVariables false
namespace Go.Proofs.Ytiafeogjknilmaa.B
open Go.RowKit
set_option maxHeartbeats 1000000 in
theorem inside_yes (at_ n : Int) (w : World) (h : 0 ≤ at_) (hn : 0 ≤ n) (hn2 : n ≤ 8) (h2 : at_ ≤ 1024 - n) :
    Calls Try.prog 27 #[.int .i64 at_, .int .i64 n] w fun e w' => e = .returned (.bool true) ∧ Below w.heap.size w w' := by
  go_enter Try.func27, Try.ntmps27
  go_wp2
  go_ret
  exact ⟨rfl, Below.refl _ _⟩
set_option maxHeartbeats 1000000 in
theorem inside_no (at_ n : Int) (w : World) (hn : 0 ≤ n) (hn2 : n ≤ 8) (h2 : ¬ (0 ≤ at_ ∧ at_ ≤ 1024 - n)) :
    Calls Try.prog 27 #[.int .i64 at_, .int .i64 n] w fun e w' => e = .returned (.bool false) ∧ Below w.heap.size w w' := by
  by_cases h : 0 ≤ at_
  · have h3 : ¬ (at_ ≤ 1024 - n) := by omega
    go_enter Try.func27, Try.ntmps27
    go_wp2
    go_ret
    exact ⟨rfl, Below.refl _ _⟩
  · clear h2
    go_enter Try.func27, Try.ntmps27
    go_wp2
    go_ret
    exact ⟨rfl, Below.refl _ _⟩
set_option maxHeartbeats 2000000 in
theorem span (at_ n : Int) (w : World) (h0 : -9223372036854775808 ≤ at_) (h1 : at_ ≤ 9223372036854775807) (h2 : -9223372036854775808 ≤ n) (h3 : n ≤ 9223372036854775807) :
    Calls Try.prog 28 #[.int .i64 at_, .int .i64 n] w fun e w' => e = .returned (.tuple #[.int .i64 (loP at_ n), .int .i64 (hiP at_ n)]) ∧ Below w.heap.size w w' := by
  by_cases a : n < 1
  · have e1 : loP at_ n = 0 := by unfold loP; rw [if_pos (.inl a)]
    have e2 : hiP at_ n = 0 := by unfold hiP; rw [if_pos (.inl a)]
    rw [e1, e2]; clear e1 e2
    go_enter Try.func28, Try.ntmps28
    go_wp2
    go_ret2
    exact ⟨rfl, Below.refl _ _⟩
  · by_cases b : 1024 ≤ at_
    · have e1 : loP at_ n = 0 := by unfold loP; rw [if_pos (.inr (.inl b))]
      have e2 : hiP at_ n = 0 := by unfold hiP; rw [if_pos (.inr (.inl b))]
      rw [e1, e2]; clear e1 e2
      go_enter Try.func28, Try.ntmps28
      go_wp2
      go_ret2
      exact ⟨rfl, Below.refl _ _⟩
    · by_cases c : at_ < 0
      · by_cases d : n ≤ -(at_ + 1)
        · have e1 : loP at_ n = 0 := by unfold loP; rw [if_pos (by omega)]
          have e2 : hiP at_ n = 0 := by unfold hiP; rw [if_pos (by omega)]
          rw [e1, e2]; clear e1 e2
          go_enter Try.func28, Try.ntmps28
          go_wp2
          go_ret2
          exact ⟨rfl, Below.refl _ _⟩
        · have e1 : (loP at_ n : Int) = 0 := by unfold loP; split <;> omega
          by_cases k : at_ + n < 1024
          · have e2 : (hiP at_ n : Int) = at_ + n := by unfold hiP; split <;> omega
            rw [e1, e2]; clear e1 e2
            by_cases k0 : 0 < at_ + n
            all_goals
              go_enter Try.func28, Try.ntmps28
              go_wp2
              go_ret2
              first | exact ⟨rfl, Below.refl _ _⟩ | exact ⟨by rw [show at_ + n = 0 by omega]; rfl, Below.refl _ _⟩
          · have e2 : (hiP at_ n : Int) = 1024 := by unfold hiP; split <;> omega
            rw [e1, e2]; clear e1 e2
            by_cases k0 : at_ + n = 1024
            all_goals
              go_enter Try.func28, Try.ntmps28
              go_wp2
              go_ret2
              first | exact ⟨rfl, Below.refl _ _⟩ | exact ⟨by rw [k0]; rfl, Below.refl _ _⟩
      · have e1 : (loP at_ n : Int) = at_ := by unfold loP; split <;> omega
        by_cases k : n < 1024 - at_
        · have e2 : (hiP at_ n : Int) = at_ + n := by unfold hiP; split <;> omega
          rw [e1, e2]; clear e1 e2
          by_cases k0 : at_ = 0
          all_goals
            go_enter Try.func28, Try.ntmps28
            go_wp2
            go_ret2
            first | exact ⟨rfl, Below.refl _ _⟩ | exact ⟨by rw [k0]; rfl, Below.refl _ _⟩
        · have e2 : (hiP at_ n : Int) = 1024 := by unfold hiP; split <;> omega
          rw [e1, e2]; clear e1 e2
          by_cases k0 : at_ = 0
          all_goals
            go_enter Try.func28, Try.ntmps28
            go_wp2
            go_ret2
            first | exact ⟨rfl, Below.refl _ _⟩ | exact ⟨by rw [k0]; rfl, Below.refl _ _⟩
end Go.Proofs.Ytiafeogjknilmaa.B
