/- FdsScript: the walk. -/
import Derived.Test.YtgbdjeofbeibiaaFcAi
import Derived.Test.YtgbdjeofbeibiaaFcBi
import Derived.Test.YtgbdjeofbeibiaaFcBa
import Derived.Test.YtgbdjeofbeibiaaFcAg
set_option linter.unusedVariables false
namespace Go.Proofs.Ytgbdjeofbeibiaa.Pe
set_option maxRecDepth 10000
set_option maxHeartbeats 8000000
theorem Iw.more {H N : Heap} {mA mB : Int} {n m : Nat} (v : Iw H N mA mB n) (h : n ≤ m) : Iw H N mA mB m := by
  obtain ⟨A, B, ya, yb, P, R, kk, F, FI, FS, v⟩ := v
  exact (v.more h).iw
theorem Post.vc {K d : Nat} {H N : Heap} {mA mB : Int} {n m : Nat} {f : FuncId} {args : List V} (hW : W.wr f = true) (h : pF (evW T F K W (d + 1)) f args (appL H N) (Post H mA mB n)) (hnm : n ≤ m) : ∃ N', Vc (evW T F K W (d + 1)) f args (appL H N) (.c (.b true), appL H N') ∧ Iw H N' mA mB m := by
  obtain ⟨u, H', e1, rfl, N', rfl, h1⟩ := h
  exact ⟨N', vwr hW ⟨_, _, e1, rfl, rfl⟩, h1.more hnm⟩
theorem actI_v {K d : Nat} {H N : Heap} {mA mB : Int} {n : Nat} (v : Iw H N mA mB n) (a : Act) (hlo : lo64 a.2.2.2) (hn : n ≤ 10000) (hK : 1000100 < K) : ∃ N', Vc (evW T F K W (d + 4)) 8 [.c (.p (H.length + 4) 0), .c (.p (H.length + 0) 0), .c (.p (H.length + 2) 0), .ag 4 (actC a)] (appL H N) (.c (.b true), appL H N') ∧ Iw H N' mA mB (n + 1) := by
  obtain ⟨A, B, ya, yb, P, R, kk, F, FI, FS, v⟩ := v
  by_cases k0 : a.2.1 = 0
  · exact Post.vc rfl (ai_open v hn hK k0 hlo) (Nat.le_refl _)
  by_cases k1 : a.2.1 = 1
  · exact Post.vc rfl (ai_get v hn hK k1) (Nat.le_succ _)
  by_cases k2 : a.2.1 = 2
  · exact Post.vc rfl (ai_set v hn hK k2 hlo) (Nat.le_succ _)
  by_cases k3 : a.2.1 = 3
  · exact Post.vc rfl (ai_close v hn hK k3) (Nat.le_succ _)
  by_cases k4 : a.2.1 = 4
  · exact Post.vc rfl (ai_len v hn hK k4) (Nat.le_succ _)
  by_cases k5 : a.2.1 = 5
  · exact Post.vc rfl (ai_all v hn hK k5) (Nat.le_refl _)
  · exact Post.vc rfl (ai_oth v hn hK (by omega)) (Nat.le_succ _)
theorem actT_v {K d : Nat} {H N : Heap} {mA mB : Int} {n : Nat} (v : Iw H N mA mB n) (a : Act) (hlo : lo64 a.2.2.2) (hn : n ≤ 10000) (hK : 1000100 < K) : ∃ N', Vc (evW T F K W (d + 4)) 9 [.c (.p (H.length + 4) 0), .c (.p (H.length + 1) 0), .c (.p (H.length + 3) 0), .ag 4 (actC a)] (appL H N) (.c (.b true), appL H N') ∧ Iw H N' mA mB (n + 1) := by
  obtain ⟨A, B, ya, yb, P, R, kk, F, FI, FS, v⟩ := v
  by_cases k0 : a.2.1 = 0
  · exact Post.vc rfl (bi_open v hn hK k0 hlo) (Nat.le_refl _)
  by_cases k1 : a.2.1 = 1
  · exact Post.vc rfl (bi_get v hn hK k1) (Nat.le_succ _)
  by_cases k2 : a.2.1 = 2
  · exact Post.vc rfl (bi_set v hn hK k2 hlo) (Nat.le_succ _)
  by_cases k3 : a.2.1 = 3
  · exact Post.vc rfl (bi_close v hn hK k3) (Nat.le_succ _)
  by_cases k4 : a.2.1 = 4
  · exact Post.vc rfl (bi_len v hn hK k4) (Nat.le_succ _)
  by_cases k5 : a.2.1 = 5
  · exact Post.vc rfl (bi_all v hn hK k5) (Nat.le_refl _)
  · exact Post.vc rfl (bi_oth v hn hK (by omega)) (Nat.le_succ _)
theorem ag_v {K d : Nat} {H N : Heap} {mA mB : Int} {n : Nat} (v : Iw H N mA mB n) (hn : n ≤ 10000) (hK : 1000100 < K) : Vc (evW T F K W (d + 2)) 10 [.c (.p (H.length + 4) 0)] (appL H N) (.c (.b true), appL H N) := by
  obtain ⟨A, B, ya, yb, P, R, kk, F, FI, FS, v⟩ := v
  have nI := v.nI
  have nS := v.nS
  refine again_v (appL H N) (H.length + 4) true kk FI FS (getL_own v.st.kv) (fun i hi => RowRd.of (v.st.kr i hi)) (fun w hw => ?_) (fun w hw => ?_) (by omega) (by omega) hK
  · have := (v.st.fam w (v.fi w hw).1).ok
    rw [(v.fi w hw).2] at this; exact this
  · have := (v.st.fam w (v.fs w hw).1).ok
    rw [(v.fs w hw).2] at this; exact this
theorem start (H : Heap) (mA mB : Int) : Iw H [tabB true mA 0 .ns, tabB true mB 0 .ns, refB true mA .ns .ns, refB true mB .ns .ns, keptB fun _ => .ns] mA mB 0 := by
  refine Iv.iw (A := []) (B := []) (ya := .ns) (yb := .ns) (P := (.ns, .ns)) (R := (.ns, .ns)) (kk := fun _ => .ns) (F := []) (FI := []) (FS := []) ⟨⟨⟨rfl, OwnR.ns⟩, ⟨rfl, OwnR.ns⟩, ⟨rfl, OwnR.ns, OwnR.ns, fun q h => absurd h At.ns⟩, ⟨rfl, OwnR.ns, OwnR.ns, fun q h => absurd h At.ns⟩, rfl, fun i hi => ?_, fun i j _ _ _ q h => absurd h At.ns, fun w hw => by simp at hw, ?_, ?_⟩, fun p hp => by simp at hp, fun p hp => by simp at hp, fun w hw => by simp at hw, fun w hw => by simp at hw, Nat.le_refl _, Nat.le_refl _, Nat.le_refl _, Nat.le_refl _⟩
  · have : kc [] [] i = [] := by
      match i, hi with
      | 0, _ => rfl
      | 1, _ => rfl
      | 2, _ => rfl
      | 3, _ => rfl
      | 4, _ => rfl
      | 5, _ => rfl
    show OwnR H _ .ns 1 (eK i) (kc [] [] i).length (kc [] [] i)
    rw [this]; exact OwnR.ns
  all_goals
    have key : ∀ i q, ZZ H ⟨mA, cnt [], .ns, cL fI []⟩ ⟨mB, cnt [], .ns, cL fS []⟩ ⟨mA, .ns, .ns, ents []⟩ ⟨mB, .ns, .ns, ents []⟩ ⟨fun _ => .ns, kc [] []⟩ [] i q → q = i ∧ i < 5 := fun i q h => by
      match i, h with
      | 0, h => exact ⟨h.elim id fun h => absurd h At.ns, by omega⟩
      | 1, h => exact ⟨h.elim id fun h => absurd h At.ns, by omega⟩
      | 2, h => exact ⟨h.elim id fun h => h.elim (fun h => absurd h At.ns) fun h => absurd h At.ns, by omega⟩
      | 3, h => exact ⟨h.elim id fun h => h.elim (fun h => absurd h At.ns) fun h => absurd h At.ns, by omega⟩
      | 4, h => exact ⟨h.elim id fun ⟨_, _, h⟩ => absurd h At.ns, by omega⟩
      | 5, h =>
        obtain ⟨w, hw, _⟩ := h
        simp at hw
      | _ + 6, h => exact h.elim
  · intro i j hij q h1 h2
    have := (key i q h1).1
    have := (key j q h2).1
    omega
  · intro i q h
    obtain ⟨rfl, h5⟩ := key i q h
    exact ⟨_, by rw [getL_eq]; exact List.getElem?_eq_getElem (by simpa using h5)⟩
end Go.Proofs.Ytgbdjeofbeibiaa.Pe
