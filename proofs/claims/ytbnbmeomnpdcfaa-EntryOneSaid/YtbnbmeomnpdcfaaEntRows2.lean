/- EntryOne: from a row's arguments to the plain reading. -/
import Derived.Test.YtbnbmeomnpdcfaaEntRows
import Derived.Test.YtbnbmeomnpdcfaaEntOne
set_option linter.unusedVariables false
namespace Go.Proofs.Ytbnbmeomnpdcfaa.Pe
open Go.RowKit Go.Proofs.Ytbnbmeomnpdcfaa.B
theorem one_row {v0 v1 : Value} {z0 z1 : List C} (g0 : All2 LeafC [.int .u16, .str] z0) (c0 : ∀ ρ H, VRel ρ H (.ag 2 z0) v0) (g1 : All2 LeafC [.int .u16, .str] z1) (c1 : ∀ ρ H, VRel ρ H (.ag 2 z1) v1) (w : World) : Calls Try.prog 7 #[v0, v1] w fun e w' => e = .returned (.bool true) ∧ Below w.heap.size w w' := by
  obtain ⟨n, s, rfl, h0, h1, hs⟩ := ent_open g0
  obtain ⟨m, t, rfl, h0', h1', ht⟩ := ent_open g1
  exact open_call (callW (s.length + t.length + 2000) 6) (one_p [] n m s t (by omega) (by omega) (by omega) h0 h1 h0' h1' hs ht) (hrel_nil (fun _ _ => undef) w) (fun id b hb => by simp at hb) (All2.cons (c0 _ _) (All2.cons (c1 _ _) All2.nil))
end Go.Proofs.Ytbnbmeomnpdcfaa.Pe
