/- HeadBack: from a row's arguments to the plain reading. -/
import Derived.Test.YtcgmblcpeinpjaaHdBk2
import Derived.Test.YtcgmblcpeinpjaaShpOpen
import Derived.Test.YtcgmblcpeinpjaaRowSl
set_option linter.unusedVariables false
namespace Go.Proofs.Ytcgmblcpeinpjaa.Pe
open Go.RowKit Go.Proofs.Ytcgmblcpeinpjaa.B
theorem hback_row {v0 : Value} {z0 : List C} (g0 : All2 LeafC [.int .i64, .int .i64, .int .i64] z0) (c0 : ∀ ρ H, VRel ρ H (.ag 3 z0) v0) {l0 : List Int} {A0 : Option Addr} {c2 : Nat} {w : World} (h0 : RdN w .i64 A0 l0) (k0 : l0.length ≤ c2) (w0 : ∀ x ∈ l0, (Lit.int .i64 x).wf = true) (m0 : l0.length * 8 ≤ 140737488351232) (v : Int) (w2 : (Lit.int .u32 v).wf = true) : Calls Try.prog 5 #[v0, .slice A0 l0.length c2, .int .u32 v] w fun e w' => e = .returned (.bool true) ∧ Below w.heap.size w w' := by
  obtain ⟨b, l, i, rfl, hb, hl, hi⟩ := geo_open g0
  obtain ⟨hH, hno⟩ := hrel_one (ρ := rhoL [.slice A0 l0.length c2]) (brel_ror h0 k0 (by omega) rfl) rfl
  have hv := vrel_sl (ρ := rhoL [.slice A0 l0.length c2]) (H := [.ror (l0.map (C.i .i64)) l0.length 1]) (id := 0) h0 rfl k0 rfl
  have hbu := bounds_u32 w2
  exact open_call (callW (7100 + l0.length) 5) (hback_p [.ror (intsC l0) l0.length 1] b l i v (.sl 0 0 l0.length l0.length) l0.length l0 (Rows.ror rfl (by rw [intsC_len, Nat.mul_one])) rfl (fun z hz => bounds_i64 (w0 z hz)) (by omega) hb hl hi (by omega) (by omega) (by omega)) hH hno (All2.cons (c0 _ _) (All2.cons hv (All2.cons rfl All2.nil)))
end Go.Proofs.Ytcgmblcpeinpjaa.Pe
