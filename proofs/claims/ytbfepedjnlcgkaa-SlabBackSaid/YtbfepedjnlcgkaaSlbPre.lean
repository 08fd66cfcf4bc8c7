/- Lists of bytes: their beginnings. -/
import Derived.Test.YtbfepedjnlcgkaaSlbOver
set_option linter.unusedVariables false
namespace Go.Proofs.Ytbfepedjnlcgkaa.Pe
theorem rows_pre {B : Heap} {id k lo m : Nat} {wr : Bool} {e : TypeId} {f l : List UInt8} (hg : getL B id = some (.row wr (bytesC f) k lo 1 e)) (hf : f.length = k) (hlo : lo ≤ k) (hm : m ≤ k) (ht : f.take m = l) : Rows B (.sl id 0 m k) 1 m (bytesC l) := by
  have := Rows.rowP hg hf hlo (Nat.le_refl _) hm
  rw [ht] at this; exact this
theorem take_app {q m : List UInt8} {n : Nat} (h : q.length = n) : (q ++ m).take n = q := by rw [← h]; simp
theorem take_all {f : List UInt8} {n : Nat} (h : f.length = n) : f.take n = f := by rw [← h]; simp
end Go.Proofs.Ytbfepedjnlcgkaa.Pe
