-- PRINTED BY print.sh 35421559b90ae4d0a3588c463048766b98c2df88dd9212a6774a882060cdf62d: not written by this session
import Derived.Test.YtmmhdndglliflaaPSlabNumbersx0
namespace Go.Proofs.Ytmmhdndglliflaa.PSlabNumbers
open Go.RowKit Go.Proofs.YtmmhdndglliflaaW.PrintWords Go.Proofs.YtmmhdndglliflaaW.PrintLast Go.Proofs.YtmmhdndglliflaaW.PrintMore
attribute [local go_sem] max2_int min2_int max_two min_two max_three min_three max_four min_four   -- for this text's walks alone
set_option linter.unusedVariables false
set_option linter.unusedSimpArgs false

-- NOT PRINTED: function 18 (undercroftlaw01_block)

/-! ### slab_inside: function 46 -/
def slab_inside.f (a0 : Int) (a1 : Int) : Option (Bool) := if a0 ≥ 0 then (some (decide (a0 ≤ (wrap64 (1024 - a1))))) else (some false)
set_option maxHeartbeats 8000000 in
set_option maxRecDepth 100000 in
theorem slab_inside.calls (a0 : Int) (a1 : Int) (r : Bool) (w : World) (h : slab_inside.f a0 a1 = some r) :
    Calls Try.prog 46 #[.int .i64 a0, .int .i64 a1] w fun e w' => e = .returned (.bool r) ∧ Drawn0 w w' := by
  have H : (if a0 ≥ 0 then (some (decide (a0 ≤ (wrap64 (1024 - a1))))) else (some false)) = some r := h
  clear h
  by_cases c3 : a0 ≥ 0
  · rw [if_pos c3] at H
    have c3b0 : decide (0 ≤ a0) = true := decide_eq_true c3
    clear c3
    obtain rfl := Option.some.inj H
    go_enter Try.func46, Try.ntmps46
    go_wp2
    go_ret
    exact ⟨by first | rfl | (simp; done) | (simp [*]; done), by repeat (first | exact Drawn0.refl _ | apply Drawn0.step)⟩
  · rw [if_neg c3] at H
    have c3b0 : decide (0 ≤ a0) = false := decide_eq_false c3
    clear c3
    obtain rfl := Option.some.inj H
    go_enter Try.func46, Try.ntmps46
    go_wp2
    go_ret
    exact ⟨by first | rfl | (simp; done) | (simp [*]; done), by repeat (first | exact Drawn0.refl _ | apply Drawn0.step)⟩

-- NOT PRINTED: function 33 (slab_U16)

/-! ### undercroftref01_inside: function 50 -/
def undercroftref01_inside.f (a0 : Int) : Option (Bool) := if a0 ≥ 0 then (some (decide (a0 < 1024))) else (some false)
set_option maxHeartbeats 8000000 in
set_option maxRecDepth 100000 in
theorem undercroftref01_inside.calls (a0 : Int) (r : Bool) (w : World) (h : undercroftref01_inside.f a0 = some r) :
    Calls Try.prog 50 #[.int .i64 a0] w fun e w' => e = .returned (.bool r) ∧ Drawn0 w w' := by
  have H : (if a0 ≥ 0 then (some (decide (a0 < 1024))) else (some false)) = some r := h
  clear h
  by_cases c2 : a0 ≥ 0
  · rw [if_pos c2] at H
    have c2b0 : decide (0 ≤ a0) = true := decide_eq_true c2
    clear c2
    obtain rfl := Option.some.inj H
    go_enter Try.func50, Try.ntmps50
    go_wp2
    go_ret
    exact ⟨by first | rfl | (simp; done) | (simp [*]; done), by repeat (first | exact Drawn0.refl _ | apply Drawn0.step)⟩
  · rw [if_neg c2] at H
    have c2b0 : decide (0 ≤ a0) = false := decide_eq_false c2
    clear c2
    obtain rfl := Option.some.inj H
    go_enter Try.func50, Try.ntmps50
    go_wp2
    go_ret
    exact ⟨by first | rfl | (simp; done) | (simp [*]; done), by repeat (first | exact Drawn0.refl _ | apply Drawn0.step)⟩

-- NOT PRINTED: function 47 (undercroftref01_number)

-- NOT PRINTED: function 34 (undercroftref01_U16)

-- NOT PRINTED: function 35 (slab_U32)

-- NOT PRINTED: function 36 (undercroftref01_U32)

-- NOT PRINTED: function 37 (slab_SetU16)

-- NOT PRINTED: function 48 (undercroftref01_set)

-- NOT PRINTED: function 38 (undercroftref01_SetU16)

-- NOT PRINTED: function 39 (slab_SetU32)

-- NOT PRINTED: function 40 (undercroftref01_SetU32)

-- NOT PRINTED: function 7 (undercroftlaw01_SlabNumbers)

end Go.Proofs.Ytmmhdndglliflaa.PSlabNumbers
