/- Tables of this seat: its types and its functions. -/
import Derived.Test.YtpdhgmeaehfkmaaProg
import Derived.Test.YtpdhgmeaehfkmaaPeDef
namespace Go.Proofs.Ytpdhgmeaehfkmaa.Pe
def T : Tys := [
  (3, ⟨.int .i64, 1, 8, [.i .i64 0], []⟩),
  (4, ⟨.bool, 1, 1, [.b false], []⟩),
  (9, ⟨.str, 1, 16, [.s []], []⟩),
  (22, ⟨.ptr, 1, 8, [.np], []⟩),
  (24, ⟨.int .i64, 1, 8, [.i .i64 0], []⟩),
  (29, ⟨.sl 33, 1, 24, [.ns], []⟩),
  (30, ⟨.ptr, 1, 8, [.np], []⟩),
  (33, ⟨.st [(0, 3), (1, 3), (2, 3), (3, 3)], 4, 32, [.i .i64 0, .i .i64 0, .i .i64 0, .i .i64 0], [.int .i64, .int .i64, .int .i64, .int .i64]⟩),
  (34, ⟨.sl 4, 1, 24, [.ns], []⟩),
  (43, ⟨.ptr, 1, 8, [.np], []⟩),
  (48, ⟨.sl 87, 1, 24, [.ns], []⟩),
  (49, ⟨.sl 82, 1, 24, [.ns], []⟩),
  (50, ⟨.sl 94, 1, 24, [.ns], []⟩),
  (51, ⟨.sl 96, 1, 24, [.ns], []⟩),
  (53, ⟨.st [(0, 48), (1, 49), (2, 49), (3, 50), (4, 49), (5, 51)], 6, 144, [.ns, .ns, .ns, .ns, .ns, .ns], []⟩),
  (57, ⟨.sl 64, 1, 24, [.ns], []⟩),
  (59, ⟨.st [(0, 4), (1, 3), (2, 3), (3, 57)], 4, 48, [.b false, .i .i64 0, .i .i64 0, .ns], []⟩),
  (64, ⟨.st [(0, 4), (1, 3)], 2, 16, [.b false, .i .i64 0], [.bool, .int .i64]⟩),
  (71, ⟨.sl 75, 1, 24, [.ns], []⟩),
  (73, ⟨.st [(0, 4), (1, 3), (2, 3), (3, 71)], 4, 48, [.b false, .i .i64 0, .i .i64 0, .ns], []⟩),
  (75, ⟨.st [(0, 4), (1, 33)], 5, 40, [.b false, .i .i64 0, .i .i64 0, .i .i64 0, .i .i64 0], [.bool, .int .i64, .int .i64, .int .i64, .int .i64]⟩),
  (79, ⟨.sl 100, 1, 24, [.ns], []⟩),
  (81, ⟨.st [(0, 4), (1, 3), (2, 3), (3, 79)], 4, 48, [.b false, .i .i64 0, .i .i64 0, .ns], []⟩),
  (82, ⟨.sl 3, 1, 24, [.ns], []⟩),
  (84, ⟨.st [(0, 3), (1, 82), (2, 82)], 3, 56, [.i .i64 0, .ns, .ns], []⟩),
  (96, ⟨.sl 9, 1, 24, [.ns], []⟩),
  (100, ⟨.st [(0, 4), (1, 9)], 2, 24, [.b false, .s []], [.bool, .str]⟩)]
noncomputable def F : Fns := [(3, Try.f3), (4, Try.f4), (5, Try.f5), (6, Try.f6), (7, Try.f7), (8, Try.f8), (9, Try.f9), (10, Try.f10), (11, Try.f11), (12, Try.f12), (13, Try.f13), (14, Try.f14), (15, Try.f15), (16, Try.f16), (17, Try.f17), (18, Try.f18), (19, Try.f19), (20, Try.f20), (21, Try.f21), (22, Try.f22), (23, Try.f23), (24, Try.f24), (25, Try.f25), (26, Try.f26), (27, Try.f27), (28, Try.f28), (29, Try.f29), (30, Try.f30), (31, Try.f31), (32, Try.f32), (33, Try.f33), (34, Try.f34), (35, Try.f35), (36, Try.f36), (37, Try.f37), (38, Try.f38), (39, Try.f39), (40, Try.f40), (41, Try.f41), (42, Try.f42), (43, Try.f43), (44, Try.f44), (45, Try.f45), (46, Try.f46), (47, Try.f47), (48, Try.f48), (49, Try.f49), (50, Try.f50), (51, Try.f51), (52, Try.f52), (53, Try.f53), (54, Try.f54), (55, Try.f55), (56, Try.f56), (57, Try.f57), (58, Try.f58), (75, Try.f75)]
end Go.Proofs.Ytpdhgmeaehfkmaa.Pe
