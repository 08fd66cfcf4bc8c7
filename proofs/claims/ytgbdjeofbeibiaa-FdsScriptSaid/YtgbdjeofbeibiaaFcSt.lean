/- FdsScript: all that lies in memory, and that it lies apart. -/
import Derived.Test.YtgbdjeofbeibiaaFcPl
import Derived.Test.YtgbdjeofbeibiaaFcTx
import Derived.Test.YtgbdjeofbeibiaaFcRw
set_option linter.unusedVariables false
namespace Go.Proofs.Ytgbdjeofbeibiaa.Pe
set_option maxRecDepth 10000
set_option maxHeartbeats 4000000
/-! ### objects that lie apart -/
structure Sp (N : Heap) (Z : Nat → Nat → Prop) : Prop where
  dis : ∀ i j, i ≠ j → ∀ q, Z i q → ¬ Z j q
  oc : ∀ i q, Z i q → ∃ b, getL N q = some b
theorem Sp.kept {N N' : Heap} {Z : Nat → Nat → Prop} {i : Nat} (s : Sp N Z) (f : ∀ q b, getL N q = some b → ¬ Z i q → getL N' q = some b) {j : Nat} (hj : j ≠ i) : ∀ q b, Z j q → getL N q = some b → getL N' q = some b := fun q b hz hq => f q b hq (s.dis j i hj q hz)
theorem Sp.step {N N' : Heap} {Z Z' : Nat → Nat → Prop} {i : Nat} (s : Sp N Z) (h : ∀ j, j ≠ i → Z' j = Z j) (f : ∀ q b, getL N q = some b → ¬ Z i q → getL N' q = some b ∧ ¬ Z' i q) (oc : ∀ q, Z' i q → ∃ b, getL N' q = some b) : Sp N' Z' := by
  have key : ∀ j, j ≠ i → ∀ q, Z' j q → (∃ b, getL N' q = some b) ∧ ¬ Z' i q := fun j hj q hq => by
    rw [h j hj] at hq
    obtain ⟨b, hb⟩ := s.oc j q hq
    obtain ⟨h1, h2⟩ := f q b hb (s.dis j i hj q hq)
    exact ⟨⟨b, h1⟩, h2⟩
  refine ⟨fun a b hab q ha hb => ?_, fun a q ha => ?_⟩
  · by_cases ea : a = i
    · subst ea
      exact (key b (fun e => hab e.symm) q hb).2 ha
    · by_cases eb : b = i
      · subst eb
        exact (key a ea q ha).2 hb
      · rw [h a ea] at ha
        rw [h b eb] at hb
        exact s.dis a b hab q ha hb
  · by_cases ea : a = i
    · subst ea; exact oc q ha
    · exact (key a ea q ha).1
/-! ### an iterator that is kept, and what it must tell -/
structure Wlk where
  V : C → Prop
  id : Nat
  x : C
  y : C
  D : Nat → Prop
structure Wk (H N : Heap) (w : Wlk) : Prop where
  ex : ∃ j z l e e', w.id = H.length + j ∧ w.D j ∧ getL N j = some (.var true 1 [z]) ∧ l.length ≤ 1000000 ∧ (∀ p ∈ l, w.V p.2) ∧ OwnR H N z 2 e l.length (cellsP l) ∧ OwnR H N w.x 1 eI (entL 0 l).length (fdsC (entL 0 l)) ∧ OwnR H N w.y 1 e' (entL 0 l).length (valsC (entL 0 l)) ∧ (∀ q, At H z q → w.D q) ∧ (∀ q, At H w.x q → w.D q) ∧ (∀ q, At H w.y q → w.D q)
theorem Wk.kept {H N N' : Heap} {w : Wlk} (h : Wk H N w) (k : ∀ q b, w.D q → getL N q = some b → getL N' q = some b) : Wk H N' w := by
  obtain ⟨j, z, l, e, e', h1, h2, h3, h4, h5, h6, h7, h8, h9, h10, h11⟩ := h
  exact ⟨j, z, l, e, e', h1, h2, k _ _ h2 h3, h4, h5, h6.kept fun q b ha hq => k q b (h9 q ha) hq, h7.kept fun q b ha hq => k q b (h10 q ha) hq, h8.kept fun q b ha hq => k q b (h11 q ha) hq, h9, h10, h11⟩
theorem Wk.ok {H N : Heap} {w : Wlk} (h : Wk H N w) : WalkOk w.V (appL H N) w.id w.x w.y := by
  obtain ⟨j, z, l, e, e', h1, h2, h3, h4, h5, h6, h7, h8, h9, h10, h11⟩ := h
  rw [h1]
  exact ⟨true, z, l, getL_own h3, h4, h5, h6.rows.rdSl, h7.rows.rdSl, h8.rows.rdSl⟩
/-! ### the whole -/
structure TS where
  m : Int
  h : Int
  y : C
  cs : List (Bool × C)
structure RS where
  m : Int
  x : C
  y : C
  E : List En
structure KS where
  k : Nat → C
  c : Nat → List C
def eK : Nat → TypeId
  | 0 => 58
  | 1 => 49
  | 2 => 49
  | 3 => 68
  | 4 => 49
  | _ => 70
def keptB (k : Nat → C) : Bk := .var true 6 [k 0, k 1, k 2, k 3, k 4, k 5]
def ZZ (H : Heap) (a b : TS) (p r : RS) (k : KS) (F : List Wlk) : Nat → Nat → Prop
  | 0, q => q = 0 ∨ At H a.y q
  | 1, q => q = 1 ∨ At H b.y q
  | 2, q => q = 2 ∨ At H p.x q ∨ At H p.y q
  | 3, q => q = 3 ∨ At H r.x q ∨ At H r.y q
  | 4, q => q = 4 ∨ ∃ i, i < 6 ∧ At H (k.k i) q
  | 5, q => ∃ w ∈ F, w.D q
  | _, _ => False
structure Stt (H N : Heap) (a b : TS) (p r : RS) (k : KS) (F : List Wlk) : Prop where
  ta : Tb Ti.eC H N 0 a.m a.h a.y a.cs
  tb : Tb Ts.eC H N 1 b.m b.h b.y b.cs
  rp : Rf H N 2 p.m p.x p.y p.E
  rr : Rf H N 3 r.m r.x r.y r.E
  kv : getL N 4 = some (keptB k.k)
  kr : ∀ i, i < 6 → OwnR H N (k.k i) 1 (eK i) (k.c i).length (k.c i)
  kd : ∀ i j, i < 6 → j < 6 → i ≠ j → ∀ q, At H (k.k i) q → ¬ At H (k.k j) q
  fam : ∀ w ∈ F, Wk H N w
  sp : Sp N (ZZ H a b p r k F)
section
variable {H N N' : Heap} {a b : TS} {p r : RS} {k : KS} {F : List Wlk}
theorem Tb.kept {e : TypeId} {tq : Nat} {m h : Int} {y : C} {cs : List (Bool × C)} (t : Tb e H N tq m h y cs) (f : ∀ q b, (q = tq ∨ At H y q) → getL N q = some b → getL N' q = some b) : Tb e H N' tq m h y cs := ⟨f _ _ (.inl rfl) t.tab, t.own.kept fun q b ha hq => f q b (.inr ha) hq⟩
theorem Rf.kept {pq : Nat} {m : Int} {x y : C} {E : List En} (t : Rf H N pq m x y E) (f : ∀ q b, (q = pq ∨ At H x q ∨ At H y q) → getL N q = some b → getL N' q = some b) : Rf H N' pq m x y E := ⟨f _ _ (.inl rfl) t.tab, t.ox.kept fun q b ha hq => f q b (.inr (.inl ha)) hq, t.oy.kept fun q b ha hq => f q b (.inr (.inr ha)) hq, t.sep⟩
theorem Tb.occ {e : TypeId} {tq : Nat} {m h : Int} {y : C} {cs : List (Bool × C)} (t : Tb e H N tq m h y cs) (q : Nat) (hq : q = tq ∨ At H y q) : ∃ b, getL N q = some b := by
  rcases hq with rfl | hq
  · exact ⟨_, t.tab⟩
  · obtain ⟨lo, h⟩ := t.own.at_ hq; exact ⟨_, h⟩
theorem Rf.occ {pq : Nat} {m : Int} {x y : C} {E : List En} (t : Rf H N pq m x y E) (q : Nat) (hq : q = pq ∨ At H x q ∨ At H y q) : ∃ b, getL N q = some b := by
  rcases hq with rfl | hq | hq
  · exact ⟨_, t.tab⟩
  · obtain ⟨lo, h⟩ := t.ox.at_ hq; exact ⟨_, h⟩
  · obtain ⟨lo, h⟩ := t.oy.at_ hq; exact ⟨_, h⟩
theorem Stt.setA (s : Stt H N a b p r k F) {a' : TS} (t : Tb Ti.eC H N' 0 a'.m a'.h a'.y a'.cs) (f : KeepU H N N' 0 a.y a'.y) : Stt H N' a' b p r k F := by
  have f1 : ∀ q b, getL N q = some b → ¬ (q = 0 ∨ At H a.y q) → getL N' q = some b ∧ ¬ At H a'.y q := fun q b hq hn => f q b hq (fun e => hn (.inl e)) (fun e => hn (.inr e))
  have kp : ∀ j, j ≠ 0 → ∀ q b, ZZ H a _ p r k F j q → getL N q = some b → getL N' q = some b := fun j hj => s.sp.kept (i := 0) (fun q b hq hn => (f1 q b hq hn).1) hj
  refine ⟨t, s.tb.kept (kp 1 (by omega)), s.rp.kept (kp 2 (by omega)), s.rr.kept (kp 3 (by omega)), kp 4 (by omega) _ _ (.inl rfl) s.kv, fun i hi => (s.kr i hi).kept fun q b ha hq => kp 4 (by omega) q b (.inr ⟨i, hi, ha⟩) hq, s.kd, fun w hw => (s.fam w hw).kept fun q b hd hq => kp 5 (by omega) q b ⟨w, hw, hd⟩ hq, s.sp.step (i := 0) (fun j hj => ?_) (fun q b hq hn => ?_) t.occ⟩
  · match j, hj with
    | 0, hj => exact absurd rfl hj
    | 1, _ => rfl
    | 2, _ => rfl
    | 3, _ => rfl
    | 4, _ => rfl
    | 5, _ => rfl
    | _ + 6, _ => rfl
  · obtain ⟨h1, h2⟩ := f1 q b hq hn
    exact ⟨h1, fun h => h.elim (fun e => hn (.inl e)) h2⟩
theorem Stt.setB (s : Stt H N a b p r k F) {b' : TS} (t : Tb Ts.eC H N' 1 b'.m b'.h b'.y b'.cs) (f : KeepU H N N' 1 b.y b'.y) : Stt H N' a b' p r k F := by
  have f1 : ∀ q c, getL N q = some c → ¬ (q = 1 ∨ At H b.y q) → getL N' q = some c ∧ ¬ At H b'.y q := fun q c hq hn => f q c hq (fun e => hn (.inl e)) (fun e => hn (.inr e))
  have kp : ∀ j, j ≠ 1 → ∀ q c, ZZ H a b p r k F j q → getL N q = some c → getL N' q = some c := fun j hj => s.sp.kept (i := 1) (fun q c hq hn => (f1 q c hq hn).1) hj
  refine ⟨s.ta.kept (kp 0 (by omega)), t, s.rp.kept (kp 2 (by omega)), s.rr.kept (kp 3 (by omega)), kp 4 (by omega) _ _ (.inl rfl) s.kv, fun i hi => (s.kr i hi).kept fun q c ha hq => kp 4 (by omega) q c (.inr ⟨i, hi, ha⟩) hq, s.kd, fun w hw => (s.fam w hw).kept fun q c hd hq => kp 5 (by omega) q c ⟨w, hw, hd⟩ hq, s.sp.step (i := 1) (fun j hj => ?_) (fun q c hq hn => ?_) t.occ⟩
  · match j, hj with
    | 0, _ => rfl
    | 1, hj => exact absurd rfl hj
    | 2, _ => rfl
    | 3, _ => rfl
    | 4, _ => rfl
    | 5, _ => rfl
    | _ + 6, _ => rfl
  · obtain ⟨h1, h2⟩ := f1 q c hq hn
    exact ⟨h1, fun h => h.elim (fun e => hn (.inl e)) h2⟩
theorem Stt.setP (s : Stt H N a b p r k F) {p' : RS} (t : Rf H N' 2 p'.m p'.x p'.y p'.E) (f : KeepR H N N' 2 p.x p.y p'.x p'.y) : Stt H N' a b p' r k F := by
  have f1 : ∀ q c, getL N q = some c → ¬ (q = 2 ∨ At H p.x q ∨ At H p.y q) → getL N' q = some c ∧ ¬ At H p'.x q ∧ ¬ At H p'.y q := fun q c hq hn => f q c hq (fun e => hn (.inl e)) (fun e => hn (.inr (.inl e))) (fun e => hn (.inr (.inr e)))
  have kp : ∀ j, j ≠ 2 → ∀ q c, ZZ H a b p r k F j q → getL N q = some c → getL N' q = some c := fun j hj => s.sp.kept (i := 2) (fun q c hq hn => (f1 q c hq hn).1) hj
  refine ⟨s.ta.kept (kp 0 (by omega)), s.tb.kept (kp 1 (by omega)), t, s.rr.kept (kp 3 (by omega)), kp 4 (by omega) _ _ (.inl rfl) s.kv, fun i hi => (s.kr i hi).kept fun q c ha hq => kp 4 (by omega) q c (.inr ⟨i, hi, ha⟩) hq, s.kd, fun w hw => (s.fam w hw).kept fun q c hd hq => kp 5 (by omega) q c ⟨w, hw, hd⟩ hq, s.sp.step (i := 2) (fun j hj => ?_) (fun q c hq hn => ?_) t.occ⟩
  · match j, hj with
    | 0, _ => rfl
    | 1, _ => rfl
    | 2, hj => exact absurd rfl hj
    | 3, _ => rfl
    | 4, _ => rfl
    | 5, _ => rfl
    | _ + 6, _ => rfl
  · obtain ⟨h1, h2, h3⟩ := f1 q c hq hn
    exact ⟨h1, fun h => h.elim (fun e => hn (.inl e)) fun h => h.elim h2 h3⟩
theorem Stt.setR (s : Stt H N a b p r k F) {r' : RS} (t : Rf H N' 3 r'.m r'.x r'.y r'.E) (f : KeepR H N N' 3 r.x r.y r'.x r'.y) : Stt H N' a b p r' k F := by
  have f1 : ∀ q c, getL N q = some c → ¬ (q = 3 ∨ At H r.x q ∨ At H r.y q) → getL N' q = some c ∧ ¬ At H r'.x q ∧ ¬ At H r'.y q := fun q c hq hn => f q c hq (fun e => hn (.inl e)) (fun e => hn (.inr (.inl e))) (fun e => hn (.inr (.inr e)))
  have kp : ∀ j, j ≠ 3 → ∀ q c, ZZ H a b p r k F j q → getL N q = some c → getL N' q = some c := fun j hj => s.sp.kept (i := 3) (fun q c hq hn => (f1 q c hq hn).1) hj
  refine ⟨s.ta.kept (kp 0 (by omega)), s.tb.kept (kp 1 (by omega)), s.rp.kept (kp 2 (by omega)), t, kp 4 (by omega) _ _ (.inl rfl) s.kv, fun i hi => (s.kr i hi).kept fun q c ha hq => kp 4 (by omega) q c (.inr ⟨i, hi, ha⟩) hq, s.kd, fun w hw => (s.fam w hw).kept fun q c hd hq => kp 5 (by omega) q c ⟨w, hw, hd⟩ hq, s.sp.step (i := 3) (fun j hj => ?_) (fun q c hq hn => ?_) t.occ⟩
  · match j, hj with
    | 0, _ => rfl
    | 1, _ => rfl
    | 2, _ => rfl
    | 3, hj => exact absurd rfl hj
    | 4, _ => rfl
    | 5, _ => rfl
    | _ + 6, _ => rfl
  · obtain ⟨h1, h2, h3⟩ := f1 q c hq hn
    exact ⟨h1, fun h => h.elim (fun e => hn (.inl e)) fun h => h.elim h2 h3⟩
/-- New blocks behind all that was there. -/
theorem Stt.app {L : Heap} (s : Stt H N a b p r k F) : Stt H (appL N L) a b p r k F :=
  ⟨s.ta.app, s.tb.app, s.rp.same fun _ _ h => getL_base h, s.rr.same fun _ _ h => getL_base h, getL_base s.kv, fun i hi => (s.kr i hi).app, s.kd, fun w hw => (s.fam w hw).kept fun _ _ _ h => getL_base h, ⟨s.sp.dis, fun i q h => by obtain ⟨b, hb⟩ := s.sp.oc i q h; exact ⟨b, getL_base hb⟩⟩⟩
def KS.set (k : KS) (i : Nat) (x : C) (c : List C) : KS := ⟨upd k.k i x, upd k.c i c⟩
/-- One more in a list of those kept: the row; then the variable. -/
theorem Stt.setK (s : Stt H N a b p r k F) {i : Nat} (hi : i < 6) {N2 : Heap} {x' : C} {c' : List C} (o : OwnR H N2 x' 1 (eK i) c'.length c') (kl : KeepL H N N2 (k.k i) x') (hs : setL N2 (keptB (upd k.k i x')) 4 = some N') : getL N2 4 = some (keptB k.k) ∧ Stt H N' a b p r (k.set i x' c') F := by
  have f0 : ∀ q c, getL N q = some c → ¬ At H (k.k i) q → getL N2 q = some c ∧ ¬ At H x' q := fun q c hq hn => by
    obtain ⟨h1, h2⟩ := kl q c hq fun u g e => hn ⟨u, g, e⟩
    exact ⟨h1, fun ⟨u, g, e⟩ => h2 u g e⟩
  have g4 : getL N2 4 = some (keptB k.k) := (f0 _ _ s.kv ((s.kr i hi).notVar s.kv)).1
  obtain ⟨N5, u1, u2, u3⟩ := set_ok (b2 := keptB (upd k.k i x')) g4
  rw [u1] at hs
  cases hs
  have f1 : ∀ q c, getL N q = some c → ¬ (q = 4 ∨ ∃ i, i < 6 ∧ At H (k.k i) q) → getL N' q = some c ∧ ¬ At H x' q := fun q c hq hn => by
    obtain ⟨h1, h2⟩ := f0 q c hq fun e => hn (.inr ⟨i, hi, e⟩)
    exact ⟨u3 q c (fun e => hn (.inl e)) h1, h2⟩
  have kp : ∀ j, j ≠ 4 → ∀ q c, ZZ H a b p r k F j q → getL N q = some c → getL N' q = some c := fun j hj => s.sp.kept (i := 4) (fun q c hq hn => (f1 q c hq hn).1) hj
  have o' : OwnR H N' x' 1 (eK i) c'.length c' := o.setv g4 u1
  have oth : ∀ j, j < 6 → j ≠ i → OwnR H N' (k.k j) 1 (eK j) (k.c j).length (k.c j) := fun j hj hji => by
    refine (s.kr j hj).kept fun q c ha hq => ?_
    have h1 := (f0 q c hq (s.kd j i hj hi hji q ha)).1
    refine u3 q c (fun e => ?_) h1
    subst e
    exact (s.kr j hj).notVar s.kv ha
  have kr' : ∀ j, j < 6 → OwnR H N' (upd k.k i x' j) 1 (eK j) (upd k.c i c' j).length (upd k.c i c' j) := fun j hj => by
    by_cases e : j = i
    · subst e; rw [upd_at, upd_at]; exact o'
    · rw [upd_ne e, upd_ne e]; exact oth j hj e
  have away : ∀ j, j < 6 → j ≠ i → ∀ q, At H (k.k j) q → ¬ At H x' q := fun j hj hji q ha => by
    obtain ⟨lo, hq⟩ := (s.kr j hj).at_ ha
    exact (f0 q _ hq (s.kd j i hj hi hji q ha)).2
  refine ⟨g4, s.ta.kept (kp 0 (by omega)), s.tb.kept (kp 1 (by omega)), s.rp.kept (kp 2 (by omega)), s.rr.kept (kp 3 (by omega)), u2, kr', fun j l hj hl hjl q h1 h2 => ?_, fun w hw => (s.fam w hw).kept fun q c hd hq => kp 5 (by omega) q c ⟨w, hw, hd⟩ hq, s.sp.step (i := 4) (fun j hj => ?_) (fun q c hq hn => ?_) (fun q hq => ?_)⟩
  · change At H (upd k.k i x' j) q at h1
    change At H (upd k.k i x' l) q at h2
    by_cases e1 : j = i
    · subst e1
      rw [upd_at] at h1
      rw [upd_ne (fun e => hjl e.symm)] at h2
      exact away l hl (fun e => hjl e.symm) q h2 h1
    · rw [upd_ne e1] at h1
      by_cases e2 : l = i
      · subst e2
        rw [upd_at] at h2
        exact away j hj e1 q h1 h2
      · rw [upd_ne e2] at h2
        exact s.kd j l hj hl hjl q h1 h2
  · match j, hj with
    | 0, _ => rfl
    | 1, _ => rfl
    | 2, _ => rfl
    | 3, _ => rfl
    | 4, hj => exact absurd rfl hj
    | 5, _ => rfl
    | _ + 6, _ => rfl
  · obtain ⟨h1, h2⟩ := f1 q c hq hn
    refine ⟨h1, fun h => ?_⟩
    rcases h with e | ⟨j, hj, h⟩
    · exact hn (.inl e)
    · change At H (upd k.k i x' j) q at h
      by_cases e1 : j = i
      · subst e1
        rw [upd_at] at h
        exact h2 h
      · rw [upd_ne e1] at h
        exact hn (.inr ⟨j, hj, h⟩)
  · rcases hq with rfl | ⟨j, hj, h⟩
    · exact ⟨_, u2⟩
    · obtain ⟨lo, hh⟩ := (kr' j hj).at_ h
      exact ⟨_, hh⟩
/-- One more iterator, that lies in new blocks. -/
theorem Stt.addF (s : Stt H N a b p r k F) {w : Wlk} (hw : Wk H N w) (h1 : ∀ q, w.D q → ∃ b, getL N q = some b) (h2 : ∀ i q, i ≠ 5 → ZZ H a b p r k F i q → ¬ w.D q) : Stt H N a b p r k (w :: F) := by
  have key : ∀ i q, i ≠ 5 → ZZ H a b p r k (w :: F) i q → ZZ H a b p r k F i q ∧ ¬ ∃ v ∈ w :: F, v.D q := fun i q hi hz => by
    have hz' : ZZ H a b p r k F i q := by
      match i, hi, hz with
      | 0, _, hz => exact hz
      | 1, _, hz => exact hz
      | 2, _, hz => exact hz
      | 3, _, hz => exact hz
      | 4, _, hz => exact hz
      | 5, hi, _ => exact absurd rfl hi
      | _ + 6, _, hz => exact hz
    refine ⟨hz', fun ⟨v, hv, hd⟩ => ?_⟩
    rcases List.mem_cons.1 hv with rfl | hv
    · exact h2 i q hi hz' hd
    · exact s.sp.dis i 5 hi q hz' ⟨v, hv, hd⟩
  refine ⟨s.ta, s.tb, s.rp, s.rr, s.kv, s.kr, s.kd, fun v hv => ?_, fun i j hij q hi hj => ?_, fun i q hq => ?_⟩
  · rcases List.mem_cons.1 hv with rfl | hv
    · exact hw
    · exact s.fam v hv
  · by_cases ei : i = 5
    · subst ei
      exact (key j q (fun e => hij e.symm) hj).2 hi
    · by_cases ej : j = 5
      · subst ej
        exact (key i q ei hi).2 hj
      · exact s.sp.dis i j hij q (key i q ei hi).1 (key j q ej hj).1
  · by_cases ei : i = 5
    · subst ei
      obtain ⟨v, hv, hd⟩ := hq
      rcases List.mem_cons.1 hv with rfl | hv
      · exact h1 q hd
      · exact s.sp.oc 5 q ⟨v, hv, hd⟩
    · exact s.sp.oc i q (key i q ei hq).1
end
end Go.Proofs.Ytgbdjeofbeibiaa.Pe
