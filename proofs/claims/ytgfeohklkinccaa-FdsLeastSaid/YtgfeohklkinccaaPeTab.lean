/- Tables of this seat: its types and its functions. -/
import Derived.Test.YtgfeohklkinccaaProg
import Derived.Test.YtgfeohklkinccaaPeDef
namespace Go.Proofs.Ytgfeohklkinccaa.Pe
def T : Tys := [
  (3, ⟨.int .i64, 1, 8, [.i .i64 0], []⟩),
  (4, ⟨.bool, 1, 1, [.b false], []⟩),
  (9, ⟨.str, 1, 16, [.s []], []⟩),
  (22, ⟨.ptr, 1, 8, [.np], []⟩),
  (24, ⟨.int .i64, 1, 8, [.i .i64 0], []⟩),
  (29, ⟨.sl 33, 1, 24, [.ns], []⟩),
  (30, ⟨.ptr, 1, 8, [.np], []⟩),
  (33, ⟨.st [(0, 3), (1, 3), (2, 3), (3, 3)], 4, 32, [.i .i64 0, .i .i64 0, .i .i64 0, .i .i64 0], [.int .i64, .int .i64, .int .i64, .int .i64]⟩),
  (34, ⟨.sl 4, 1, 24, [.ns], []⟩),
  (43, ⟨.sl 48, 1, 24, [.ns], []⟩),
  (45, ⟨.st [(0, 4), (1, 3), (2, 3), (3, 43)], 4, 48, [.b false, .i .i64 0, .i .i64 0, .ns], []⟩),
  (48, ⟨.st [(0, 4), (1, 3)], 2, 16, [.b false, .i .i64 0], [.bool, .int .i64]⟩),
  (52, ⟨.ptr, 1, 8, [.np], []⟩),
  (57, ⟨.sl 61, 1, 24, [.ns], []⟩),
  (59, ⟨.st [(0, 4), (1, 3), (2, 3), (3, 57)], 4, 48, [.b false, .i .i64 0, .i .i64 0, .ns], []⟩),
  (61, ⟨.st [(0, 4), (1, 33)], 5, 40, [.b false, .i .i64 0, .i .i64 0, .i .i64 0, .i .i64 0], [.bool, .int .i64, .int .i64, .int .i64, .int .i64]⟩),
  (65, ⟨.sl 69, 1, 24, [.ns], []⟩),
  (67, ⟨.st [(0, 4), (1, 3), (2, 3), (3, 65)], 4, 48, [.b false, .i .i64 0, .i .i64 0, .ns], []⟩),
  (69, ⟨.st [(0, 4), (1, 9)], 2, 24, [.b false, .s []], [.bool, .str]⟩)]
noncomputable def F : Fns := [(3, Try.f3), (4, Try.f4), (5, Try.f5), (6, Try.f6), (7, Try.f7), (8, Try.f8), (9, Try.f9), (10, Try.f10), (11, Try.f11), (12, Try.f12), (13, Try.f13), (14, Try.f14), (15, Try.f15), (16, Try.f16), (17, Try.f17), (18, Try.f18), (19, Try.f19), (20, Try.f20), (21, Try.f21), (22, Try.f22), (23, Try.f23), (24, Try.f24), (25, Try.f25), (26, Try.f26), (27, Try.f27), (28, Try.f28), (29, Try.f29), (30, Try.f30), (31, Try.f31), (47, Try.f47), (48, Try.f48), (50, Try.f50), (51, Try.f51)]
end Go.Proofs.Ytgfeohklkinccaa.Pe
