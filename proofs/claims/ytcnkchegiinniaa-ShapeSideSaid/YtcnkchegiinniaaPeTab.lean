/- Tables of this seat: its types and its functions. -/
import Derived.Test.YtcnkchegiinniaaProg
import Derived.Test.YtcnkchegiinniaaPeDef
namespace Go.Proofs.Ytcnkchegiinniaa.Pe
def T : Tys := [
  (3, ⟨.int .i64, 1, 8, [.i .i64 0], []⟩),
  (5, ⟨.int .u8, 1, 1, [.i .u8 0], []⟩),
  (23, ⟨.st [(0, 3), (1, 3), (2, 3)], 3, 24, [.i .i64 0, .i .i64 0, .i .i64 0], [.int .i64, .int .i64, .int .i64]⟩),
  (25, ⟨.st [(0, 23), (3, 3), (4, 3), (5, 3), (6, 3), (7, 3), (8, 3)], 9, 72, [.i .i64 0, .i .i64 0, .i .i64 0, .i .i64 0, .i .i64 0, .i .i64 0, .i .i64 0, .i .i64 0, .i .i64 0], [.int .i64, .int .i64, .int .i64, .int .i64, .int .i64, .int .i64, .int .i64, .int .i64, .int .i64]⟩),
  (26, ⟨.int .i64, 1, 8, [.i .i64 0], []⟩),
  (29, ⟨.int .u8, 1, 1, [.i .u8 0], []⟩),
  (37, ⟨.arr 1024 5, 1024, 1024, List.replicate 1024 (.i .u8 0), List.replicate 1024 (.int .u8)⟩),
  (42, ⟨.sl 5, 1, 24, [.ns], []⟩),
  (43, ⟨.arr 9 3, 9, 72, [.i .i64 0, .i .i64 0, .i .i64 0, .i .i64 0, .i .i64 0, .i .i64 0, .i .i64 0, .i .i64 0, .i .i64 0], [.int .i64, .int .i64, .int .i64, .int .i64, .int .i64, .int .i64, .int .i64, .int .i64, .int .i64]⟩),
  (45, ⟨.int .u32, 1, 4, [.i .u32 0], []⟩)]
noncomputable def F : Fns := [(3, Try.f3), (4, Try.f4), (5, Try.f5), (6, Try.f6), (7, Try.f7), (8, Try.f8), (9, Try.f9), (10, Try.f10), (11, Try.f11), (12, Try.f12), (13, Try.f13), (14, Try.f14), (15, Try.f15), (16, Try.f16)]
end Go.Proofs.Ytcnkchegiinniaa.Pe
