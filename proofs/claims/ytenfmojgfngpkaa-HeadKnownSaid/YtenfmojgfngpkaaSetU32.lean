/- slab.inside and slab.SetU32: what they hand back, in plain Lean. -/
import Derived.Test.YtenfmojgfngpkaaPeTab
import Derived.Test.YtenfmojgfngpkaaPeSym
import Derived.KernelRfl
namespace Go.Proofs.Ytenfmojgfngpkaa.Pe
set_option maxRecDepth 10000
theorem inside_ok {call : CallF} (a n : Int) : pF (run1 T F 100000 call) 14 [.c (.i .i64 a), .c (.i .i64 n)] [] fun v H => v = .c (.b (leI 0 a && leI a (wrapQ .i64 (1024 - n)))) ∧ H = [] := by
  refine pF_body rfl rfl (pC_seq (pC_region (pS_op rfl rfl rfl (pS_nil (pC_seq (pC_region ?_))))))
  refine pS_op rfl rfl rfl (pS_test rfl rfl rfl rfl (fun h => ?_) (fun h => ?_))
  · repeat (refine pS_op rfl rfl rfl ?_)
    refine pS_nil (pC_ret ⟨(fun _ e => nomatch e), _, rfl, ?_, rfl⟩)
    have h : leI 0 a = true := h
    rw [h]
    rfl
  · repeat (first | refine pS_op rfl rfl rfl ?_ | refine pS_no rfl rfl ?_)
    refine pS_nil (pC_ret ⟨(fun _ e => nomatch e), _, rfl, ?_, rfl⟩)
    have h : leI 0 a = false := h
    rw [h]
    rfl
/-- The byte at a place of a number. -/
def byteC (v : Int) (i : Nat) : C := .i .u8 (wrapQ .u8 (v.fdiv (2 ^ (8 * i))))
def laid4 (cs : List C) (at_ : Nat) (v : Int) : List C := (((cs.set at_ (byteC v 0)).set (at_ + 1) (byteC v 1)).set (at_ + 2) (byteC v 2)).set (at_ + 3) (byteC v 3)
theorem wrapQ_small {x : Int} (h1 : 0 ≤ x) (h2 : x ≤ 9223372036854775807) : wrapQ .i64 x = x := by
  rw [wrapQ_eq]; exact wrap_in .i64 x (by simp [IntKind.signed, maxN]; omega) (by simpa [maxN] using h2)
theorem setU32_ok {call : CallF} (hin : ∀ a H, vcall call 14 [.c (.i .i64 a), .c (.i .i64 4)] H = some (.c (.b (leI 0 a && leI a 1020)), H)) (cs : List C) (hl : cs.length = 1024) (a : Nat) (ha : a ≤ 1020) (v : Int) :
    pF (run1 T F 100000 call) 12 [.ag 1024 cs, .c (.i .i64 a), .c (.i .u32 v)] [] fun r H => r = .ag 1024 (laid4 cs a v) := by
  have hb : (leI 0 (a : Int) && leI (a : Int) 1020) = true := by rw [leI_eq, leI_eq]; simp; omega
  refine pF_body rfl rfl (pC_seq (pC_region (pS_op rfl rfl rfl (pS_op rfl rfl rfl (pS_nil (pC_seq (pC_seq (pC_region (pS_op rfl rfl rfl ?_)))))))))
  refine pS_call rfl rfl rfl (hin a _) rfl (pS_nil (pC_cond rfl (fun _ => ?_) (fun h => by rw [hb] at h; cases h)))
  refine pC_seq (pC_region (pS_op rfl rfl rfl (pS_nil (pC_block (pC_iter ?_)))))
  refine pI_round (n := 99999) (pC_seq (pC_region (pS_op rfl rfl rfl (pS_nil (pC_seq (pC_cond rfl (fun _ => pC_skip ?_) (fun h => by cases h)))))))
  refine pC_seq (pC_block (pC_seq (pC_region (pS_op rfl rfl rfl (pS_op rfl rfl rfl (pS_nil (pC_region ?_)))))))
  refine pS_op rfl rfl rfl (pS_op rfl rfl rfl (pS_as (v' := .c (.i .i64 ((a + 0 : Nat) : Int))) rfl rfl ?_ rfl ?_))
  · show V.c (C.i .i64 (wrapQ .i64 ((a : Int) + (0 : Nat)))) = _
    rw [wrapQ_small (by omega) (by omega)]
    rfl
  refine pS_op rfl rfl rfl (pS_op rfl rfl rfl (pS_op rfl rfl rfl (pS_op rfl rfl rfl (pS_as (v' := .c (byteC v 0)) rfl rfl rfl rfl ?_))))
  refine pS_op rfl (op_ixa rfl rfl rfl rfl rfl (by omega) (by omega)) rfl ?_
  refine pS_op rfl (op_store (cs' := (cs).set (a + 0) (byteC v 0)) rfl rfl rfl rfl rfl rfl rfl ?_ rfl) rfl (pS_nil (pC_region (pS_op rfl rfl rfl (pS_op rfl rfl rfl (pS_nil ?_)))))
  · exact (splice_one (by omega) (by simp [hl]) (by simp; omega)).trans (by congr 2; show 0 + Int.toNat ((a + 0 : Nat) : Int) * 1 = _; rw [Int.toNat_natCast]; omega)
  refine pI_round (n := 99998) (pC_seq (pC_region (pS_op rfl rfl rfl (pS_nil (pC_seq (pC_cond rfl (fun _ => pC_skip ?_) (fun h => by cases h)))))))
  refine pC_seq (pC_block (pC_seq (pC_region (pS_op rfl rfl rfl (pS_op rfl rfl rfl (pS_nil (pC_region ?_)))))))
  refine pS_op rfl rfl rfl (pS_op rfl rfl rfl (pS_as (v' := .c (.i .i64 ((a + 1 : Nat) : Int))) rfl rfl ?_ rfl ?_))
  · show V.c (C.i .i64 (wrapQ .i64 ((a : Int) + (1 : Nat)))) = _
    rw [wrapQ_small (by omega) (by omega)]
    rfl
  refine pS_op rfl rfl rfl (pS_op rfl rfl rfl (pS_op rfl rfl rfl (pS_op rfl rfl rfl (pS_as (v' := .c (byteC v 1)) rfl rfl rfl rfl ?_))))
  refine pS_op rfl (op_ixa rfl rfl rfl rfl rfl (by omega) (by omega)) rfl ?_
  refine pS_op rfl (op_store (cs' := ((cs).set (a + 0) (byteC v 0)).set (a + 1) (byteC v 1)) rfl rfl rfl rfl rfl rfl rfl ?_ rfl) rfl (pS_nil (pC_region (pS_op rfl rfl rfl (pS_op rfl rfl rfl (pS_nil ?_)))))
  · exact (splice_one (by omega) (by simp [hl]) (by simp; omega)).trans (by congr 2; show 0 + Int.toNat ((a + 1 : Nat) : Int) * 1 = _; rw [Int.toNat_natCast]; omega)
  refine pI_round (n := 99997) (pC_seq (pC_region (pS_op rfl rfl rfl (pS_nil (pC_seq (pC_cond rfl (fun _ => pC_skip ?_) (fun h => by cases h)))))))
  refine pC_seq (pC_block (pC_seq (pC_region (pS_op rfl rfl rfl (pS_op rfl rfl rfl (pS_nil (pC_region ?_)))))))
  refine pS_op rfl rfl rfl (pS_op rfl rfl rfl (pS_as (v' := .c (.i .i64 ((a + 2 : Nat) : Int))) rfl rfl ?_ rfl ?_))
  · show V.c (C.i .i64 (wrapQ .i64 ((a : Int) + (2 : Nat)))) = _
    rw [wrapQ_small (by omega) (by omega)]
    rfl
  refine pS_op rfl rfl rfl (pS_op rfl rfl rfl (pS_op rfl rfl rfl (pS_op rfl rfl rfl (pS_as (v' := .c (byteC v 2)) rfl rfl rfl rfl ?_))))
  refine pS_op rfl (op_ixa rfl rfl rfl rfl rfl (by omega) (by omega)) rfl ?_
  refine pS_op rfl (op_store (cs' := (((cs).set (a + 0) (byteC v 0)).set (a + 1) (byteC v 1)).set (a + 2) (byteC v 2)) rfl rfl rfl rfl rfl rfl rfl ?_ rfl) rfl (pS_nil (pC_region (pS_op rfl rfl rfl (pS_op rfl rfl rfl (pS_nil ?_)))))
  · exact (splice_one (by omega) (by simp [hl]) (by simp; omega)).trans (by congr 2; show 0 + Int.toNat ((a + 2 : Nat) : Int) * 1 = _; rw [Int.toNat_natCast]; omega)
  refine pI_round (n := 99996) (pC_seq (pC_region (pS_op rfl rfl rfl (pS_nil (pC_seq (pC_cond rfl (fun _ => pC_skip ?_) (fun h => by cases h)))))))
  refine pC_seq (pC_block (pC_seq (pC_region (pS_op rfl rfl rfl (pS_op rfl rfl rfl (pS_nil (pC_region ?_)))))))
  refine pS_op rfl rfl rfl (pS_op rfl rfl rfl (pS_as (v' := .c (.i .i64 ((a + 3 : Nat) : Int))) rfl rfl ?_ rfl ?_))
  · show V.c (C.i .i64 (wrapQ .i64 ((a : Int) + (3 : Nat)))) = _
    rw [wrapQ_small (by omega) (by omega)]
    rfl
  refine pS_op rfl rfl rfl (pS_op rfl rfl rfl (pS_op rfl rfl rfl (pS_op rfl rfl rfl (pS_as (v' := .c (byteC v 3)) rfl rfl rfl rfl ?_))))
  refine pS_op rfl (op_ixa rfl rfl rfl rfl rfl (by omega) (by omega)) rfl ?_
  refine pS_op rfl (op_store (cs' := ((((cs).set (a + 0) (byteC v 0)).set (a + 1) (byteC v 1)).set (a + 2) (byteC v 2)).set (a + 3) (byteC v 3)) rfl rfl rfl rfl rfl rfl rfl ?_ rfl) rfl (pS_nil (pC_region (pS_op rfl rfl rfl (pS_op rfl rfl rfl (pS_nil ?_)))))
  · exact (splice_one (by omega) (by simp [hl]) (by simp; omega)).trans (by congr 2; show 0 + Int.toNat ((a + 3 : Nat) : Int) * 1 = _; rw [Int.toNat_natCast]; omega)
  refine pI_round (n := 99995) (pC_seq (pC_region (pS_op rfl rfl rfl (pS_nil (pC_seq (pC_cond rfl (fun h => by cases h) (fun _ => pC_exit ?_)))))))
  refine pC_seq (pC_region (pS_op rfl rfl rfl (pS_op rfl rfl rfl (pS_nil (pC_ret ⟨(fun _ e => nomatch e), _, rfl, ?_⟩)))))
  simp [laid4]
end Go.Proofs.Ytenfmojgfngpkaa.Pe
