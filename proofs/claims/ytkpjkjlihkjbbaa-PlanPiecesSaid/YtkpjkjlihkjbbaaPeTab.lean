/- Tables of this seat: its types and its functions. -/
import Derived.Test.YtkpjkjlihkjbbaaProg
import Derived.Test.YtkpjkjlihkjbbaaPeDef
namespace Go.Proofs.Ytkpjkjlihkjbbaa.Pe
def T : Tys := [
  (3, ⟨.int .i64, 1, 8, [.i .i64 0], []⟩),
  (22, ⟨.sl 27, 1, 24, [.ns], []⟩),
  (27, ⟨.st [(0, 3), (1, 3)], 2, 16, [.i .i64 0, .i .i64 0], [.int .i64, .int .i64]⟩)]
noncomputable def F : Fns := [(3, Try.f3), (4, Try.f4), (5, Try.f5), (6, Try.f6), (7, Try.f7)]
end Go.Proofs.Ytkpjkjlihkjbbaa.Pe
