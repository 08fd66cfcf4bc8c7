/- Tables of this seat: its types and its functions. -/
import Derived.Test.YtgbdjeofbeibiaaProg
import Derived.Test.YtgbdjeofbeibiaaPeDef
namespace Go.Proofs.Ytgbdjeofbeibiaa.Pe
def T : Tys := [
  (3, ⟨.int .i64, 1, 8, [.i .i64 0], []⟩),
  (4, ⟨.bool, 1, 1, [.b false], []⟩),
  (9, ⟨.str, 1, 16, [.s []], []⟩),
  (22, ⟨.sl 38, 1, 24, [.ns], []⟩),
  (23, ⟨.ptr, 1, 8, [.np], []⟩),
  (25, ⟨.ptr, 1, 8, [.np], []⟩),
  (30, ⟨.sl 58, 1, 24, [.ns], []⟩),
  (31, ⟨.sl 49, 1, 24, [.ns], []⟩),
  (32, ⟨.sl 68, 1, 24, [.ns], []⟩),
  (33, ⟨.sl 70, 1, 24, [.ns], []⟩),
  (35, ⟨.st [(0, 30), (1, 31), (2, 31), (3, 32), (4, 31), (5, 33)], 6, 144, [.ns, .ns, .ns, .ns, .ns, .ns], []⟩),
  (38, ⟨.st [(0, 3), (1, 3), (2, 3), (3, 3)], 4, 32, [.i .i64 0, .i .i64 0, .i .i64 0, .i .i64 0], [.int .i64, .int .i64, .int .i64, .int .i64]⟩),
  (43, ⟨.sl 75, 1, 24, [.ns], []⟩),
  (45, ⟨.st [(0, 4), (1, 3), (2, 3), (3, 43)], 4, 48, [.b false, .i .i64 0, .i .i64 0, .ns], []⟩),
  (46, ⟨.sl 82, 1, 24, [.ns], []⟩),
  (48, ⟨.st [(0, 4), (1, 3), (2, 3), (3, 46)], 4, 48, [.b false, .i .i64 0, .i .i64 0, .ns], []⟩),
  (49, ⟨.sl 3, 1, 24, [.ns], []⟩),
  (51, ⟨.st [(0, 3), (1, 49), (2, 49)], 3, 56, [.i .i64 0, .ns, .ns], []⟩),
  (52, ⟨.int .i64, 1, 8, [.i .i64 0], []⟩),
  (58, ⟨.oth, 1, 8, [.nf], []⟩),
  (68, ⟨.oth, 1, 8, [.nf], []⟩),
  (70, ⟨.sl 9, 1, 24, [.ns], []⟩),
  (75, ⟨.st [(0, 4), (1, 3)], 2, 16, [.b false, .i .i64 0], [.bool, .int .i64]⟩),
  (82, ⟨.st [(0, 4), (1, 9)], 2, 24, [.b false, .s []], [.bool, .str]⟩)]
noncomputable def F : Fns := [(3, Try.f3), (4, Try.f4), (5, Try.f5), (6, Try.f6), (7, Try.f7), (8, Try.f8), (9, Try.f9), (10, Try.f10), (11, Try.f11), (12, Try.f12), (13, Try.f13), (14, Try.f14), (15, Try.f15), (16, Try.f16), (17, Try.f17), (18, Try.f18), (19, Try.f19), (20, Try.f20), (21, Try.f21), (22, Try.f22), (23, Try.f23), (24, Try.f24), (25, Try.f25), (26, Try.f26), (27, Try.f27), (28, Try.f28), (29, Try.f29), (30, Try.f30), (31, Try.f31), (32, Try.f32), (33, Try.f33), (34, Try.f34), (35, Try.f35), (36, Try.f36), (37, Try.f37), (38, Try.f38), (39, Try.f39), (40, Try.f40), (41, Try.f41), (42, Try.f42)]
end Go.Proofs.Ytgbdjeofbeibiaa.Pe
