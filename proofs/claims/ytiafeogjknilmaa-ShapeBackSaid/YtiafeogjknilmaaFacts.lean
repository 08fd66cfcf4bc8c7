/- Closed facts on the types of this seat. -/
import Derived.Test.YtiafeogjknilmaaProg
import Derived.Test.YtiafeogjknilmaaBase
namespace Go.Proofs.Ytiafeogjknilmaa.B
open Go.RowKit
theorem info_Block : (Try.prog.info? 23).map (fun i => (i.zero, i.size, i.bytes)) = some (some (.agg (List.replicate 1024 (Value.int .u8 0)).toArray), 1024, 1024) := by kernel_rfl
theorem flat_Block : flat Try.prog 10000 23 = some (List.replicate 1024 [IntKind.u8]).flatten := by kernel_rfl
theorem agg_Block : isAggT Try.prog 23 = true := by kernel_rfl
theorem eqg_Block : Try.prog.eqGuardType Try.prog.depth 23 = false := by kernel_rfl
theorem zero_Block (W : World) : (zeroValue 23).run Try.prog W = .ok (.agg (arrV 1024 .u8 zeroF)) W := by
  rw [arrV_zero]
  exact run_zero_of info_Block W
theorem eql_Block (f g : Nat → Int) (W : World) : (binOp .eql 23 (.agg (arrV 1024 .u8 f)) (.agg (arrV 1024 .u8 g))).run Try.prog W = .ok (.bool (eqB 1024 f g)) W := run_eql_arr flat_Block agg_Block f g W
theorem neq_Block (f g : Nat → Int) (W : World) : (binOp .neq 23 (.agg (arrV 1024 .u8 f)) (.agg (arrV 1024 .u8 g))).run Try.prog W = .ok (.bool (!eqB 1024 f g)) W := run_neq_arr flat_Block agg_Block f g W
theorem grd_Block (op : BinOp) (x y : Operand) (u v : Array Value) (W : World) : (eqGuard op 23 x y (.agg u) (.agg v)).run Try.prog W = .ok () W := run_eqGuard_flat eqg_Block op x y u v W
theorem size_Block : (Try.prog.info? 23).map (·.size) = some 1024 := size_of_info info_Block
theorem built_Block : Try.prog.built 23 [] = some (List.replicate 1024 (Value.int .u8 0)).toArray := by kernel_rfl
theorem build_Block (W : World) : (Instr.build 23 #[]).run Try.prog W = .ok (.agg (arrV 1024 .u8 zeroF)) W := by
  rw [arrV_zero]; exact run_build W _ #[] _ built_Block
theorem size_u8 : (Try.prog.info? 5).map (·.size) = some 1 := by kernel_rfl
theorem info_u8 : (Try.prog.info? 5).map (fun i => (i.zero, i.size, i.bytes)) = some (some (.int .u8 0), 1, 1) := by kernel_rfl
end Go.Proofs.Ytiafeogjknilmaa.B
