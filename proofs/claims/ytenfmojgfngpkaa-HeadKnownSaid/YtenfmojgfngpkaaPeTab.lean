/- Tables of this seat: its types and its functions. -/
import Derived.Test.YtenfmojgfngpkaaProg
import Derived.Test.YtenfmojgfngpkaaPeDef
namespace Go.Proofs.Ytenfmojgfngpkaa.Pe
def T : Tys := [
  (2, ⟨.int .i64, 1, 8, [.i .i64 0], []⟩),
  (3, ⟨.int .i64, 1, 8, [.i .i64 0], []⟩),
  (5, ⟨.int .u8, 1, 1, [.i .u8 0], []⟩),
  (23, ⟨.st [(0, 3), (1, 3), (2, 3)], 3, 24, [.i .i64 0, .i .i64 0, .i .i64 0], [.int .i64, .int .i64, .int .i64]⟩),
  (25, ⟨.st [(0, 23), (3, 3), (4, 3), (5, 3), (6, 3), (7, 3), (8, 3)], 9, 72, [.i .i64 0, .i .i64 0, .i .i64 0, .i .i64 0, .i .i64 0, .i .i64 0, .i .i64 0, .i .i64 0, .i .i64 0], [.int .i64, .int .i64, .int .i64, .int .i64, .int .i64, .int .i64, .int .i64, .int .i64, .int .i64]⟩),
  (26, ⟨.int .i64, 1, 8, [.i .i64 0], []⟩),
  (30, ⟨.sl 3, 1, 24, [.ns], []⟩),
  (31, ⟨.sl 30, 1, 24, [.ns], []⟩),
  (33, ⟨.arr 1024 5, 1024, 1024, List.replicate 1024 (.i .u8 0), List.replicate 1024 (.int .u8)⟩),
  (37, ⟨.st [(0, 30)], 1, 24, [.ns], []⟩),
  (41, ⟨.int .u32, 1, 4, [.i .u32 0], []⟩),
  (49, ⟨.mp 3 50, 1, 8, [.nm], []⟩),
  (50, ⟨.st [], 0, 0, [], []⟩)]
noncomputable def F : Fns := [(3, Try.f3), (4, Try.f4), (5, Try.f5), (6, Try.f6), (7, Try.f7), (8, Try.f8), (9, Try.f9), (10, Try.f10), (11, Try.f11), (12, Try.f12), (13, Try.f13), (14, Try.f14)]
end Go.Proofs.Ytenfmojgfngpkaa.Pe
