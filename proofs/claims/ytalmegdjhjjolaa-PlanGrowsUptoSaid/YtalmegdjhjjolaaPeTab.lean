/- Tables of this seat: its types and its functions. -/
import Derived.Test.YtalmegdjhjjolaaProg
import Derived.Test.YtalmegdjhjjolaaPeDef
namespace Go.Proofs.Ytalmegdjhjjolaa.Pe
def T : Tys := [
  (3, ⟨.int .i64, 1, 8, [.i .i64 0], []⟩),
  (4, ⟨.bool, 1, 1, [.b false], []⟩),
  (22, ⟨.sl 37, 1, 24, [.ns], []⟩),
  (26, ⟨.sl 3, 1, 24, [.ns], []⟩),
  (32, ⟨.int .u8, 1, 1, [.i .u8 0], []⟩),
  (34, ⟨.st [(0, 32), (1, 3), (2, 3)], 3, 24, [.i .u8 0, .i .i64 0, .i .i64 0], [.int .u8, .int .i64, .int .i64]⟩),
  (37, ⟨.st [(0, 3), (1, 3)], 2, 16, [.i .i64 0, .i .i64 0], [.int .i64, .int .i64]⟩),
  (39, ⟨.mp 3 40, 1, 8, [.nm], []⟩),
  (40, ⟨.st [], 0, 0, [], []⟩)]
noncomputable def F : Fns := [(3, Try.f3), (4, Try.f4), (5, Try.f5), (6, Try.f6), (7, Try.f7), (8, Try.f8), (9, Try.f9), (10, Try.f10), (11, Try.f11), (12, Try.f12), (13, Try.f13), (14, Try.f14), (15, Try.f15), (16, Try.f16), (17, Try.f17), (18, Try.f18), (19, Try.f19), (20, Try.f20), (21, Try.f21)]
end Go.Proofs.Ytalmegdjhjjolaa.Pe
