/- Tables of this seat: its types and its functions. -/
import Derived.Test.YtbfepedjnlcgkaaProg
import Derived.Test.YtbfepedjnlcgkaaPeDef
namespace Go.Proofs.Ytbfepedjnlcgkaa.Pe
def T : Tys := [
  (3, ⟨.int .i64, 1, 8, [.i .i64 0], []⟩),
  (5, ⟨.int .u8, 1, 1, [.i .u8 0], []⟩),
  (22, ⟨.sl 5, 1, 24, [.ns], []⟩),
  (24, ⟨.sl 34, 1, 24, [.ns], []⟩),
  (30, ⟨.sl 24, 1, 24, [.ns], []⟩),
  (32, ⟨.sl 22, 1, 24, [.ns], []⟩),
  (34, ⟨.arr 1024 5, 1024, 1024, List.replicate 1024 (.i .u8 0), List.replicate 1024 (.int .u8)⟩),
  (43, ⟨.int .u32, 1, 4, [.i .u32 0], []⟩),
  (48, ⟨.int .u16, 1, 2, [.i .u16 0], []⟩)]
noncomputable def F : Fns := [(3, Try.f3), (4, Try.f4), (5, Try.f5), (6, Try.f6), (7, Try.f7), (8, Try.f8), (9, Try.f9), (10, Try.f10), (11, Try.f11), (12, Try.f12), (13, Try.f13), (14, Try.f14), (15, Try.f15), (16, Try.f16), (17, Try.f17), (18, Try.f18), (19, Try.f19), (20, Try.f20), (21, Try.f21), (22, Try.f22), (23, Try.f23), (24, Try.f24), (25, Try.f25), (26, Try.f26), (27, Try.f27), (28, Try.f28), (29, Try.f29), (30, Try.f30), (31, Try.f31), (32, Try.f32), (33, Try.f33), (34, Try.f34), (35, Try.f35), (36, Try.f36), (37, Try.f37), (38, Try.f38)]
end Go.Proofs.Ytbfepedjnlcgkaa.Pe
