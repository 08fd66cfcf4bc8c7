/- Regions of a geometry's layout: what Where hands back. -/
import Derived.Test.YtgcbjeemkifonaaShpMade
set_option linter.unusedVariables false
namespace Go.Proofs.Ytgcbjeemkifonaa.Pe
set_option maxRecDepth 10000
set_option maxHeartbeats 4000000
theorem mOk_lay {b l i : Int} (h : ofOk b l i) : mOk b l i 1 (1 + l) (nbN i) (1 + l + nbN i) (bbN b) (1 + l + nbN i + bbN b) := ⟨h, rfl, rfl, rfl, rfl, rfl, rfl⟩
theorem mOk_no : ¬ mOk 0 0 0 0 0 0 0 0 0 := by
  rintro ⟨⟨h1, _⟩, _⟩
  omega
theorem ok64 {b l i : Int} (h : ofOk b l i) : lo64 b ∧ lo64 l ∧ lo64 i := by
  obtain ⟨h1, h2, h3, h4, h5, h6, h7⟩ := h
  refine ⟨?_, ?_, ?_⟩ <;> constructor <;> omega
/-- A block's region, of a geometry's layout. -/
def whL (b l i k : Int) : Int := whN b 1 (1 + l) (1 + l + nbN i) (1 + l + nbN i + bbN b) k
theorem whL_lt (b l i k : Int) : 0 ≤ whL b l i k ∧ whL b l i k ≤ 5 := by
  unfold whL whN
  (repeat' split) <;> omega
theorem where_lay {K d : Nat} (H : Heap) (b l i k : Int) (h : ofOk b l i) (hk : lo64 k) : Vc (evW T F K W (d + 3)) 19 [.ag 9 (layC b l i), .c (.i .i64 k)] H (.c (.i .u8 (whL b l i k)), H) := by
  obtain ⟨h0, h1, h2⟩ := ok64 h
  have := where_v (K := K) (d := d) H b l i 1 (1 + l) (nbN i) (1 + l + nbN i) (bbN b) (1 + l + nbN i + bbN b) k h0 h1 h2 hk
  rw [if_pos (mOk_lay h)] at this
  exact this
theorem where_no {K d : Nat} (H : Heap) (k : Int) (hk : lo64 k) : Vc (evW T F K W (d + 3)) 19 [.ag 9 noC, .c (.i .i64 k)] H (.c (.i .u8 0), H) := by
  have := where_v (K := K) (d := d) H 0 0 0 0 0 0 0 0 0 k (by omega) (by omega) (by omega) hk
  rw [if_neg mOk_no] at this
  exact this
end Go.Proofs.Ytgcbjeemkifonaa.Pe
