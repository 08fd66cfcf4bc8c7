/- Tables of this seat: its types and its functions. -/
import Derived.Test.YtgcbjeemkifonaaProg
import Derived.Test.YtgcbjeemkifonaaPeDef
namespace Go.Proofs.Ytgcbjeemkifonaa.Pe
def T : Tys := [
  (2, ⟨.int .i64, 1, 8, [.i .i64 0], []⟩),
  (3, ⟨.int .i64, 1, 8, [.i .i64 0], []⟩),
  (4, ⟨.bool, 1, 1, [.b false], []⟩),
  (5, ⟨.int .u8, 1, 1, [.i .u8 0], []⟩),
  (22, ⟨.int .u16, 1, 2, [.i .u16 0], []⟩),
  (23, ⟨.int .u16, 1, 2, [.i .u16 0], []⟩),
  (24, ⟨.int .u32, 1, 4, [.i .u32 0], []⟩),
  (25, ⟨.arr 10 24, 10, 40, [.i .u32 0, .i .u32 0, .i .u32 0, .i .u32 0, .i .u32 0, .i .u32 0, .i .u32 0, .i .u32 0, .i .u32 0, .i .u32 0], [.int .u32, .int .u32, .int .u32, .int .u32, .int .u32, .int .u32, .int .u32, .int .u32, .int .u32, .int .u32]⟩),
  (27, ⟨.st [(0, 23), (1, 22), (2, 24), (3, 24), (4, 25), (14, 24), (15, 24)], 16, 60, [.i .u16 0, .i .u16 0, .i .u32 0, .i .u32 0, .i .u32 0, .i .u32 0, .i .u32 0, .i .u32 0, .i .u32 0, .i .u32 0, .i .u32 0, .i .u32 0, .i .u32 0, .i .u32 0, .i .u32 0, .i .u32 0], [.int .u16, .int .u16, .int .u32, .int .u32, .int .u32, .int .u32, .int .u32, .int .u32, .int .u32, .int .u32, .int .u32, .int .u32, .int .u32, .int .u32, .int .u32, .int .u32]⟩),
  (28, ⟨.sl 5, 1, 24, [.ns], []⟩),
  (29, ⟨.arr 64 5, 64, 64, List.replicate 64 (.i .u8 0), List.replicate 64 (.int .u8)⟩),
  (31, ⟨.arr 64 5, 64, 64, List.replicate 64 (.i .u8 0), List.replicate 64 (.int .u8)⟩),
  (37, ⟨.st [(0, 3), (1, 23), (2, 3), (3, 3), (4, 3)], 5, 40, [.i .i64 0, .i .u16 0, .i .i64 0, .i .i64 0, .i .i64 0], [.int .i64, .int .u16, .int .i64, .int .i64, .int .i64]⟩),
  (41, ⟨.st [(0, 3), (1, 3), (2, 3)], 3, 24, [.i .i64 0, .i .i64 0, .i .i64 0], [.int .i64, .int .i64, .int .i64]⟩),
  (43, ⟨.st [(0, 41), (3, 3), (4, 3), (5, 3), (6, 3), (7, 3), (8, 3)], 9, 72, [.i .i64 0, .i .i64 0, .i .i64 0, .i .i64 0, .i .i64 0, .i .i64 0, .i .i64 0, .i .i64 0, .i .i64 0], [.int .i64, .int .i64, .int .i64, .int .i64, .int .i64, .int .i64, .int .i64, .int .i64, .int .i64]⟩),
  (45, ⟨.int .i64, 1, 8, [.i .i64 0], []⟩),
  (52, ⟨.sl 24, 1, 24, [.ns], []⟩),
  (53, ⟨.int .u8, 1, 1, [.i .u8 0], []⟩),
  (57, ⟨.arr 1024 5, 1024, 1024, List.replicate 1024 (.i .u8 0), List.replicate 1024 (.int .u8)⟩),
  (61, ⟨.arr 12 24, 12, 48, List.replicate 12 (.i .u32 0), List.replicate 12 (.int .u32)⟩),
  (80, ⟨.int .u64, 1, 8, [.i .u64 0], []⟩)]
noncomputable def F : Fns := [(3, Try.f3), (4, Try.f4), (5, Try.f5), (6, Try.f6), (7, Try.f7), (8, Try.f8), (9, Try.f9), (10, Try.f10), (11, Try.f11), (12, Try.f12), (13, Try.f13), (14, Try.f14), (15, Try.f15), (16, Try.f16), (17, Try.f17), (18, Try.f18), (19, Try.f19), (20, Try.f20), (21, Try.f21), (22, Try.f22), (23, Try.f23), (24, Try.f24), (25, Try.f25), (26, Try.f26), (27, Try.f27), (28, Try.f28), (29, Try.f29), (30, Try.f30), (31, Try.f31), (32, Try.f32), (33, Try.f33), (34, Try.f34), (35, Try.f35), (36, Try.f36), (37, Try.f37), (38, Try.f38), (39, Try.f39), (40, Try.f40), (41, Try.f41)]
end Go.Proofs.Ytgcbjeemkifonaa.Pe
