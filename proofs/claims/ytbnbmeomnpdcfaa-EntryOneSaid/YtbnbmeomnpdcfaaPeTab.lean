/- Tables of this seat: its types and its functions. -/
import Derived.Test.YtbnbmeomnpdcfaaProg
import Derived.Test.YtbnbmeomnpdcfaaPeDef
namespace Go.Proofs.Ytbnbmeomnpdcfaa.Pe
def T : Tys := [
  (3, ⟨.int .i64, 1, 8, [.i .i64 0], []⟩),
  (4, ⟨.bool, 1, 1, [.b false], []⟩),
  (5, ⟨.int .u8, 1, 1, [.i .u8 0], []⟩),
  (9, ⟨.str, 1, 16, [.s []], []⟩),
  (22, ⟨.int .u16, 1, 2, [.i .u16 0], []⟩),
  (24, ⟨.st [(0, 22), (1, 9)], 2, 24, [.i .u16 0, .s []], [.int .u16, .str]⟩),
  (25, ⟨.arr 16 5, 16, 16, List.replicate 16 (.i .u8 0), List.replicate 16 (.int .u8)⟩),
  (26, ⟨.arr 16 5, 16, 16, List.replicate 16 (.i .u8 0), List.replicate 16 (.int .u8)⟩),
  (27, ⟨.int .i64, 1, 8, [.i .i64 0], []⟩),
  (42, ⟨.arr 1024 5, 1024, 1024, List.replicate 1024 (.i .u8 0), List.replicate 1024 (.int .u8)⟩),
  (45, ⟨.sl 5, 1, 24, [.ns], []⟩)]
noncomputable def F : Fns := [(3, Try.f3), (4, Try.f4), (5, Try.f5), (6, Try.f6), (7, Try.f7), (8, Try.f8), (9, Try.f9), (10, Try.f10), (11, Try.f11), (12, Try.f12), (13, Try.f13), (14, Try.f14), (15, Try.f15), (16, Try.f16), (17, Try.f17), (18, Try.f18), (19, Try.f19)]
end Go.Proofs.Ytbnbmeomnpdcfaa.Pe
