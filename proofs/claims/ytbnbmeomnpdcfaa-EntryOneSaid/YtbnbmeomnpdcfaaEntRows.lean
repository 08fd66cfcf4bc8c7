/- Entries: from a row's arguments to the plain reading. -/
import Derived.Test.YtbnbmeomnpdcfaaEntLaw2
import Derived.Test.YtbnbmeomnpdcfaaLeaf
set_option linter.unusedVariables false
namespace Go.Proofs.Ytbnbmeomnpdcfaa.Pe
open Go.RowKit Go.Proofs.Ytbnbmeomnpdcfaa.B
section
variable {H : Type} {enc : TypeId × Value → H} {w : World} {base : Nat} {spare : Nat → Bool} {held : Bool}
theorem leaf_Entry : AllLeaf enc Try.prog w base spare held 24 [.int .u16, .str] := by
  refine leaf_struct Try.underlying24 (by kernel_rfl) fun j k hj => ?_
  match j, hj with
  | 0, hj => exact ⟨0, _, [.int .u16], rfl, by kernel_rfl, Nat.zero_le _, hj, leaf_int Try.underlying22⟩
  | 1, hj => exact ⟨1, _, [.str], rfl, by kernel_rfl, Nat.le_refl _, hj, leaf_str Try.underlying9⟩
  | j + 2, hj => simp at hj
theorem leaf_b16 : AllLeaf enc Try.prog w base spare held 25 (List.replicate 16 [PK.int .u8]).flatten :=
  leaf_array Try.underlying25 (by kernel_rfl) (by kernel_rfl) (by decide) (leaf_int Try.underlying5)
end
theorem ent_open {zs : List C} (g : All2 LeafC [.int .u16, .str] zs) : ∃ n s, zs = [.i .u16 n, .s s] ∧ 0 ≤ n ∧ n ≤ 65535 ∧ s.length ≤ 9223372036854775807 := by
  obtain ⟨z, zs1, rfl, ⟨n, rfl, hn⟩, g1⟩ := all2_cons g
  obtain ⟨z, zs2, rfl, ⟨s, rfl, hs⟩, g2⟩ := all2_cons g1
  obtain rfl := all2_nil g2
  have := bounds_u16 hn
  exact ⟨n, s, rfl, by omega, by omega, hs⟩
theorem b16_open {zs : List C} (g : All2 LeafC (List.replicate 16 [PK.int .u8]).flatten zs) : ∃ l, zs = bytesC l ∧ l.length = 16 := leaf_bytes 16 g
theorem callW (K d : Nat) : CallOk Try.prog (evW T F K W d) := evW_ok tabOk fnsOk mixed d
theorem str_rel {ρ : Ren} {H : Heap} (s : ByteArray) : VRel ρ H (.c (.s s.data.toList)) (.string s) := by
  show Value.string s = .string ⟨s.data.toList.toArray⟩
  simp
theorem writes_row {v0 : Value} {z0 : List C} (g0 : All2 LeafC [.int .u16, .str] z0) (c0 : ∀ ρ H, VRel ρ H (.ag 2 z0) v0) (s1 : ByteArray) (w1 : s1.size ≤ maxLen) (w : World) : Calls Try.prog 3 #[v0, .string s1] w fun e w' => e = .returned (.bool true) ∧ Below w.heap.size w w' := by
  obtain ⟨n, s, rfl, h0, h1, hs⟩ := ent_open g0
  have ht : s1.data.toList.length ≤ 9223372036854775807 := by simpa [maxLen] using w1
  exact open_call (callW (s.length + s1.data.toList.length + 2000) 6) (writes_p [] n s s1.data.toList (by omega) (by omega) (by omega) h0 h1 hs ht) (hrel_nil (fun _ _ => undef) w) (fun id b hb => by simp at hb) (All2.cons (c0 _ _) (All2.cons (str_rel s1) All2.nil))
theorem reads_row {v0 : Value} {z0 : List C} (g0 : All2 LeafC (List.replicate 16 [PK.int .u8]).flatten z0) (c0 : ∀ ρ H, VRel ρ H (.ag 16 z0) v0) (w : World) : Calls Try.prog 4 #[v0] w fun e w' => e = .returned (.bool true) ∧ Below w.heap.size w w' := by
  obtain ⟨l, rfl, hl⟩ := b16_open g0
  exact open_call (callW 2000 6) (reads_p [] l hl (by omega)) (hrel_nil (fun _ _ => undef) w) (fun id b hb => by simp at hb) (All2.cons (c0 _ _) All2.nil)
theorem back_row {v0 v1 : Value} {z0 z1 : List C} (g0 : All2 LeafC [.int .u16, .str] z0) (c0 : ∀ ρ H, VRel ρ H (.ag 2 z0) v0) (g1 : All2 LeafC (List.replicate 16 [PK.int .u8]).flatten z1) (c1 : ∀ ρ H, VRel ρ H (.ag 16 z1) v1) (w : World) : Calls Try.prog 6 #[v0, v1] w fun e w' => e = .returned (.bool true) ∧ Below w.heap.size w w' := by
  obtain ⟨n, s, rfl, h0, h1, hs⟩ := ent_open g0
  obtain ⟨l, rfl, hl⟩ := b16_open g1
  exact open_call (callW (s.length + 2000) 6) (back_p [] n s l (by omega) hl (by omega) h0 h1 hs) (hrel_nil (fun _ _ => undef) w) (fun id b hb => by simp at hb) (All2.cons (c0 _ _) (All2.cons (c1 _ _) All2.nil))
end Go.Proofs.Ytbnbmeomnpdcfaa.Pe
