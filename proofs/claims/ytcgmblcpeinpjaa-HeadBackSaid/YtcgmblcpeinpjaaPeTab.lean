/- Tables of this seat: its types and its functions. -/
import Derived.Test.YtcgmblcpeinpjaaProg
import Derived.Test.YtcgmblcpeinpjaaPeDef
namespace Go.Proofs.Ytcgmblcpeinpjaa.Pe
def T : Tys := [
  (2, ⟨.int .i64, 1, 8, [.i .i64 0], []⟩),
  (3, ⟨.int .i64, 1, 8, [.i .i64 0], []⟩),
  (4, ⟨.bool, 1, 1, [.b false], []⟩),
  (5, ⟨.int .u8, 1, 1, [.i .u8 0], []⟩),
  (23, ⟨.st [(0, 3), (1, 3), (2, 3)], 3, 24, [.i .i64 0, .i .i64 0, .i .i64 0], [.int .i64, .int .i64, .int .i64]⟩),
  (24, ⟨.sl 3, 1, 24, [.ns], []⟩),
  (26, ⟨.st [(0, 23), (3, 3), (4, 3), (5, 3), (6, 3), (7, 3), (8, 3)], 9, 72, [.i .i64 0, .i .i64 0, .i .i64 0, .i .i64 0, .i .i64 0, .i .i64 0, .i .i64 0, .i .i64 0, .i .i64 0], [.int .i64, .int .i64, .int .i64, .int .i64, .int .i64, .int .i64, .int .i64, .int .i64, .int .i64]⟩),
  (30, ⟨.arr 1024 5, 1024, 1024, List.replicate 1024 (.i .u8 0), List.replicate 1024 (.int .u8)⟩),
  (31, ⟨.int .i64, 1, 8, [.i .i64 0], []⟩),
  (35, ⟨.st [(0, 24)], 1, 24, [.ns], []⟩),
  (38, ⟨.sl 45, 1, 24, [.ns], []⟩),
  (43, ⟨.sl 24, 1, 24, [.ns], []⟩),
  (45, ⟨.int .u32, 1, 4, [.i .u32 0], []⟩),
  (53, ⟨.int .u8, 1, 1, [.i .u8 0], []⟩),
  (64, ⟨.mp 3 65, 1, 8, [.nm], []⟩),
  (65, ⟨.st [], 0, 0, [], []⟩)]
noncomputable def F : Fns := [(3, Try.f3), (4, Try.f4), (5, Try.f5), (6, Try.f6), (7, Try.f7), (8, Try.f8), (9, Try.f9), (10, Try.f10), (11, Try.f11), (12, Try.f12), (13, Try.f13), (14, Try.f14), (15, Try.f15), (16, Try.f16), (17, Try.f17), (18, Try.f18), (19, Try.f19), (20, Try.f20), (21, Try.f21), (22, Try.f22), (23, Try.f23), (24, Try.f24), (25, Try.f25), (26, Try.f26), (27, Try.f27), (28, Try.f28), (29, Try.f29), (30, Try.f30), (31, Try.f31), (32, Try.f32), (33, Try.f33), (34, Try.f34), (35, Try.f35), (36, Try.f36), (37, Try.f37), (38, Try.f38), (39, Try.f39)]
end Go.Proofs.Ytcgmblcpeinpjaa.Pe
