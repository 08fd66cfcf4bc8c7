/- Tables of this seat: its types and its functions. -/
import Derived.Test.YtndjhkacebhidaaProg
import Derived.Test.YtndjhkacebhidaaPeDef
namespace Go.Proofs.Ytndjhkacebhidaa.Pe
def T : Tys := [
  (3, ⟨.int .i64, 1, 8, [.i .i64 0], []⟩),
  (5, ⟨.int .u8, 1, 1, [.i .u8 0], []⟩),
  (9, ⟨.str, 1, 16, [.s []], []⟩),
  (23, ⟨.arr 1024 5, 1024, 1024, List.replicate 1024 (.i .u8 0), List.replicate 1024 (.int .u8)⟩),
  (25, ⟨.st [(0, 3), (1, 3), (2, 3)], 3, 24, [.i .i64 0, .i .i64 0, .i .i64 0], [.int .i64, .int .i64, .int .i64]⟩),
  (27, ⟨.st [(0, 25), (3, 3), (4, 3), (5, 3), (6, 3), (7, 3), (8, 3)], 9, 72, [.i .i64 0, .i .i64 0, .i .i64 0, .i .i64 0, .i .i64 0, .i .i64 0, .i .i64 0, .i .i64 0, .i .i64 0], [.int .i64, .int .i64, .int .i64, .int .i64, .int .i64, .int .i64, .int .i64, .int .i64, .int .i64]⟩),
  (28, ⟨.int .i64, 1, 8, [.i .i64 0], []⟩),
  (34, ⟨.int .u8, 1, 1, [.i .u8 0], []⟩),
  (41, ⟨.int .u32, 1, 4, [.i .u32 0], []⟩),
  (43, ⟨.arr 3 3, 3, 24, [.i .i64 0, .i .i64 0, .i .i64 0], [.int .i64, .int .i64, .int .i64]⟩),
  (47, ⟨.sl 5, 1, 24, [.ns], []⟩),
  (48, ⟨.arr 9 3, 9, 72, [.i .i64 0, .i .i64 0, .i .i64 0, .i .i64 0, .i .i64 0, .i .i64 0, .i .i64 0, .i .i64 0, .i .i64 0], [.int .i64, .int .i64, .int .i64, .int .i64, .int .i64, .int .i64, .int .i64, .int .i64, .int .i64]⟩)]
noncomputable def F : Fns := [(3, Try.f3), (4, Try.f4), (5, Try.f5), (6, Try.f6), (7, Try.f7), (8, Try.f8), (9, Try.f9), (10, Try.f10), (11, Try.f11), (12, Try.f12), (13, Try.f13), (14, Try.f14), (15, Try.f15), (16, Try.f16), (17, Try.f17), (18, Try.f18), (19, Try.f19), (20, Try.f20), (21, Try.f21), (22, Try.f22), (23, Try.f23)]
end Go.Proofs.Ytndjhkacebhidaa.Pe
