/- FdsScript: a call of the table of numbers: All. -/
import Derived.Test.YtgbdjeofbeibiaaFcInv
set_option linter.unusedVariables false
namespace Go.Proofs.Ytgbdjeofbeibiaa.Pe
set_option maxRecDepth 10000
set_option maxHeartbeats 4000000
/-- Blocks that a call has laid behind all that was there. -/
theorem At.ge {H N M : Heap} {x : C} {sz n q : Nat} {e : TypeId} {cs : List C} (o : OwnR (appL H N) M x sz e n cs) (h : At H x q) : N.length ≤ q := by
  obtain ⟨u, g, e1⟩ := h
  rcases o with ⟨rfl, _, _⟩ | ⟨j, lo, e2, _⟩
  · cases e1
  · rw [e2] at e1
    simp only [C.sl.injEq, appL_eq, List.length_append] at e1
    omega
/-- .. as blocks of one's own. -/
theorem OwnR.shift {H N M : Heap} {x : C} {sz n : Nat} {e : TypeId} {cs : List C} (o : OwnR (appL H N) M x sz e n cs) : OwnR H (appL N M) x sz e n cs := by
  rcases o with h | ⟨j, lo, e1, h1, h2, h3⟩
  · exact .inl h
  · exact .inr ⟨N.length + j, lo, by rw [e1, appL_eq, List.length_append, Nat.add_assoc], getL_own h1, h2, h3⟩
section
variable {K d : Nat} {H N : Heap} {mA mB : Int} {A B : List Ce} {ya yb : C} {P R : C × C} {kk : Nat → C} {F FI FS : List Wlk} {n : Nat} {a : Act}
theorem ai_all (v : Iv H N mA mB A B ya yb P R kk F FI FS n) (hn : n ≤ 10000) (hK : 1000100 < K) (hk : a.2.1 = 5) : pF (evW T Pe.F K W (d + 4)) 8 [.c (.p (H.length + 4) 0), .c (.p (H.length + 0) 0), .c (.p (H.length + 2) 0), .ag 4 (actC a)] (appL H N) (Post H mA mB (n + 1)) := by
  have nA := v.nA
  have nI := v.nI
  have hE := ents_len A
  have s1 := v.st.app (L := [.var true 4 (actC a)])
  have b1 : getL (appL N [.var true 4 (actC a)]) N.length = some (.var true 4 (actC a)) := getL_last
  have h4 := lt_of_getL v.st.kv
  obtain ⟨M1, z, g1, z0, z1⟩ := Ti.all_v (K := K) (d := d + 1) (appL H (appL N [.var true 4 (actC a)])) (H.length + 0) true mA (cnt A) ya A.length (cellsP (cL fI A)) (getL_own s1.ta.tab) (by have := s1.ta.own.rows; rw [cL_len] at this; exact this) (by omega)
  have hlen1 : (appL H (appL N [Bk.var true 4 (actC a)])).length = H.length + (N.length + 1) := by rw [appL_eq, List.length_append, appL_eq]; simp
  have hl1 : (appL N [Bk.var true 4 (actC a)]).length = N.length + 1 := by rw [appL_eq]; simp
  have occ : ∀ i q, ZZ H _ _ _ _ _ F i q → q < N.length + 1 := fun i q hq => by
    obtain ⟨b, hb⟩ := s1.sp.oc i q hq
    have := lt_of_getL hb
    omega
  rw [hlen1, app_app rfl] at g1
  have iz : getL (appL (appL N [Bk.var true 4 (actC a)]) M1) (N.length + 1) = some (.var true 1 [z]) := by
    have := getL_own (H := appL N [Bk.var true 4 (actC a)]) z0
    rw [hl1] at this; exact this
  have oz := z1.shift
  have gz : ∀ q, At H z q → N.length + 1 ≤ q := fun q hq => by have := At.ge z1 hq; omega
  have s2 := s1.app (L := M1)
  have b2 : getL (appL (appL N [Bk.var true 4 (actC a)]) M1) N.length = some (.var true 4 (actC a)) := getL_base b1
  have hle2 : N.length + 1 ≤ (appL (appL N [Bk.var true 4 (actC a)]) M1).length := by have := lt_of_getL iz; omega
  clear s1 z0 z1 hl1 hlen1
  generalize hN2 : appL (appL N [Bk.var true 4 (actC a)]) M1 = N2 at *
  -- the numbers, copied
  obtain ⟨lo1, g2, q1, q2⟩ := copy_v (K := K) (d := d + 2) (appL H N2) P.1 (ents A).length (fC (ents A)) s2.rp.ox.rows (by intro c hc; obtain ⟨q, _, rfl⟩ := List.mem_map.1 hc; rfl) (by omega)
  have hlen2 : (appL H N2).length = H.length + N2.length := by rw [appL_eq, List.length_append]
  rw [hlen2, app_app rfl] at g2
  have ox : OwnR H (appL N2 [.row true (fC (ents A)) (ents A).length lo1 1 eI]) (.sl (H.length + N2.length) 0 (ents A).length (ents A).length) 1 eI (ents A).length (fC (ents A)) := .inr ⟨N2.length, lo1, rfl, getL_last, q1, q2⟩
  have gx : ∀ q, At H (.sl (H.length + N2.length) 0 (ents A).length (ents A).length) q → N.length + 1 ≤ q := fun q ⟨u, g, e⟩ => by
    simp only [C.sl.injEq] at e; omega
  have iz := getL_base (L := [.row true (fC (ents A)) (ents A).length lo1 1 eI]) iz
  have oz := oz.app (L := [.row true (fC (ents A)) (ents A).length lo1 1 eI])
  have s3 := s2.app (L := [.row true (fC (ents A)) (ents A).length lo1 1 eI])
  have b3 := getL_base (L := [.row true (fC (ents A)) (ents A).length lo1 1 eI]) b2
  have hle3 : N.length + 1 ≤ (appL N2 [.row true (fC (ents A)) (ents A).length lo1 1 eI]).length := by rw [appL_eq, List.length_append]; omega
  generalize hN3 : appL N2 [.row true (fC (ents A)) (ents A).length lo1 1 eI] = N3 at *
  -- what they stand for, copied
  obtain ⟨lo2, g3, q3, q4⟩ := copy_v (K := K) (d := d + 2) (appL H N3) P.2 (ents A).length (vC (ents A)) s3.rp.oy.rows (by intro c hc; obtain ⟨q, _, rfl⟩ := List.mem_map.1 hc; rfl) (by omega)
  have hlen3 : (appL H N3).length = H.length + N3.length := by rw [appL_eq, List.length_append]
  rw [hlen3, app_app rfl] at g3
  have oy : OwnR H (appL N3 [.row true (vC (ents A)) (ents A).length lo2 1 eI]) (.sl (H.length + N3.length) 0 (ents A).length (ents A).length) 1 eI (ents A).length (vC (ents A)) := .inr ⟨N3.length, lo2, rfl, getL_last, q3, q4⟩
  have gy : ∀ q, At H (.sl (H.length + N3.length) 0 (ents A).length (ents A).length) q → N.length + 1 ≤ q := fun q ⟨u, g, e⟩ => by
    simp only [C.sl.injEq] at e; omega
  have iz := getL_base (L := [.row true (vC (ents A)) (ents A).length lo2 1 eI]) iz
  have oz := oz.app (L := [.row true (vC (ents A)) (ents A).length lo2 1 eI])
  have ox := ox.app (L := [.row true (vC (ents A)) (ents A).length lo2 1 eI])
  have s4 := s3.app (L := [.row true (vC (ents A)) (ents A).length lo2 1 eI])
  have b4 := getL_base (L := [.row true (vC (ents A)) (ents A).length lo2 1 eI]) b3
  generalize hN4 : appL N3 [.row true (vC (ents A)) (ents A).length lo2 1 eI] = N4 at *
  obtain ⟨w, hw⟩ : ∃ w : Wlk, w = ⟨VI, H.length + (N.length + 1), .sl (H.length + N2.length) 0 (ents A).length (ents A).length, .sl (H.length + N3.length) 0 (ents A).length (ents A).length, fun q => N.length + 1 ≤ q ∧ q < N4.length⟩ := ⟨_, rfl⟩
  have wk : Wk H N4 w := by
    subst hw
    refine ⟨N.length + 1, z, cL fI A, Ti.eC, eI, rfl, ⟨Nat.le_refl _, lt_of_getL iz⟩, iz, by rw [cL_len]; omega, cL_VI A, by rw [cL_len]; exact oz, ?_, ?_, fun q hq => ⟨gz q hq, ?_⟩, fun q hq => ⟨gx q hq, ?_⟩, fun q hq => ⟨gy q hq, ?_⟩⟩
    · rw [entL_len, fds_cL]; exact ox
    · rw [entL_len, vals_I]; exact oy
    · obtain ⟨_, h⟩ := oz.at_ hq; exact lt_of_getL h
    · obtain ⟨_, h⟩ := ox.at_ hq; exact lt_of_getL h
    · obtain ⟨_, h⟩ := oy.at_ hq; exact lt_of_getL h
  have s5 := s4.addF wk (fun q hq => by
    subst hw
    exact ⟨N4[q]'hq.2, by rw [getL_eq]; exact List.getElem?_eq_getElem hq.2⟩) (fun i q hi hz hd => by
    subst hw
    have h1 := hd.1
    have := occ i q hz
    omega)
  have hV : w.V = VI := by rw [hw]
  have hid : w.id = H.length + (N.length + 1) := by rw [hw]
  have hx : w.x = .sl (H.length + N2.length) 0 (ents A).length (ents A).length := by rw [hw]
  have hy : w.y = .sl (H.length + N3.length) 0 (ents A).length (ents A).length := by rw [hw]
  clear wk hw oz ox oy gz gx gy iz occ s4 q1 q2 q3 q4 hlen2 hlen3
  have t2 := s2.rp.tab
  have t3 := s3.rp.tab
  clear s2 s3 hle2 hle3
  refine pW_wr (frozen_no (getL_own v.st.kv) rfl) rfl rfl rfl rfl ?_
  rw [app_nil]
  (repeat' (first | with_reducible refine pS_nil ?_ | ((with_reducible refine c_guard ?_); refine pS_no rfl rfl ?_) | ((with_reducible refine c_move ?_); refine pS_op rfl rfl rfl ?_) | ((with_reducible refine c_assign ?_); refine pS_op rfl rfl rfl ?_) | ((with_reducible refine c_bin ?_); first | refine pS_op rfl (o_eqb rfl rfl rfl rfl) rfl ?_ | refine pS_op rfl (o_neb rfl rfl rfl rfl) rfl ?_ | refine pS_op rfl (o_add rfl rfl rfl (by omega) (by omega)) rfl ?_ | refine pS_op rfl (o_sub rfl rfl rfl (by omega) (by omega)) rfl ?_ | ((first | refine pS_lss rfl rfl rfl rfl rfl rfl ?_ ?_ | refine pS_leq rfl rfl rfl rfl rfl rfl ?_ ?_ | refine pS_gtr rfl rfl rfl rfl rfl rfl ?_ ?_ | refine pS_geq rfl rfl rfl rfl rfl rfl ?_ ?_ | refine pS_eql rfl rfl rfl rfl rfl rfl ?_ ?_ | refine pS_neq rfl rfl rfl rfl rfl rfl ?_ ?_) <;> intro h_ <;> first | (exfalso; omega) | skip) | (refine pS_eqs rfl rfl rfl rfl rfl rfl ?_ ?_ <;> intro h_) | (refine pS_nes rfl rfl rfl rfl rfl rfl ?_ ?_ <;> intro h_)) | ((with_reducible refine c_ix ?_); refine pS_op rfl rfl rfl ?_) | ((with_reducible refine c_load ?_); first | refine pS_op rfl (o_ld1 rfl rfl rfl rfl (getL_own b1) rfl rfl) rfl ?_ | refine pS_op rfl (o_ld1 rfl rfl rfl rfl (getL_own t2) rfl rfl) rfl ?_ | refine pS_op rfl (o_ld1 rfl rfl rfl rfl (getL_own t3) rfl rfl) rfl ?_ | refine pS_op rfl (o_ld1 rfl rfl rfl rfl (getL_own s5.kv) rfl rfl) rfl ?_) | ((with_reducible refine c_store ?_); first | refine pS_op rfl (a_stB rfl rfl rfl rfl rfl (getL_own rfl) (setL_own rfl)) rfl ?_ | refine pS_op rfl (o_stw rfl rfl rfl rfl rfl (getL_own rfl) rfl (setL_own rfl)) rfl ?_) | ((with_reducible refine c_ixa ?_); first | refine pS_op rfl (o_ixa1 rfl rfl rfl rfl rfl rfl (by omega) (by omega)) rfl ?_ | refine pS_op rfl rfl rfl ?_) | ((with_reducible refine c_alloc ?_); first | refine pS_op rfl (a_allocB rfl rfl) rfl ?_ | refine pS_op rfl (a_alloc rfl rfl) rfl ?_) | ((with_reducible refine c_box ?_); refine pS_op rfl (a_box rfl rfl rfl) rfl ?_) | ((with_reducible refine c_extract ?_); refine pS_op rfl rfl rfl ?_) | ((with_reducible refine c_blt ?_); first | refine pS_op rfl (o_max rfl rfl) rfl ?_ | refine pS_op rfl (o_min rfl rfl) rfl ?_ | refine pS_op rfl rfl rfl ?_) | ((with_reducible refine c_call ?_); first | refine pS_cl rfl rfl rfl (g1) rfl ?_ | refine pS_cl rfl rfl rfl (g2) rfl ?_ | refine pS_cl rfl rfl rfl (g3) rfl ?_) | refine pC_seq ?_ | (refine pC_reg ?_) | refine pC_T rfl ?_ | refine pC_F rfl ?_ | ((fail_if_success (refine pC_isloop ?_)); refine pC_block ?_) | refine pC_skip ?_ | refine pC_exit ?_ | refine pC_ret ⟨(fun _ e => nomatch e), _, rfl, ?_⟩ | first | (refine pS_op (o := ⟨_, .buildSlice _ _ _, _, _, _, _⟩) rfl (o_bsl (sz := 1) rfl rfl rfl rfl rfl rfl (by omega) (by omega) rfl) rfl ?_) | (refine pS_op (o := ⟨_, .unOp _ _ _, _, _, _, _⟩) rfl (o_neg rfl rfl (by omega) (by omega)) rfl ?_) | (refine pS_ot rfl rfl rfl rfl ?_)))
  have p0 := s5.app (L := [.row true [.fv 39 (H.length + (N.length + 1))] 1 1 1 (eK 0)])
  have o0 := p0.kr 0 (by omega)
  have l0 : ((⟨kk, kc FI FS⟩ : KS).c 0).length = FI.length := by
    show (kc FI FS 0).length = _
    simp [kc]
  refine pS_appP rfl rfl rfl (fun _ => rfl) rfl rfl rfl (by omega) (by omega) (OwnP.of o0) (Rows.fresh rfl (Nat.le_refl _)) (by rw [l0]; omega) ?_
  rintro x0 N5 hO0 ⟨_, _, hk0⟩
  have g0 : getL N5 4 = some (keptB (⟨kk, kc FI FS⟩ : KS).k) := (hk0 4 _ p0.kv (own_var o0 p0.kv)).1
  obtain ⟨N6, u0, v0, w0⟩ := set_ok (b2 := keptB (upd (⟨kk, kc FI FS⟩ : KS).k 0 x0)) g0
  have b5 := w0 _ _ (by omega) (hk0 N.length _ (getL_base b4) (own_var o0 (getL_base b4))).1
  have s6 := (p0.setK (i := 0) (by omega) (c' := (⟨kk, kc FI FS⟩ : KS).c 0 ++ [.fv 39 (H.length + (N.length + 1))]) (by rw [List.length_append]; exact hO0.own) hk0 u0).2
  have hc0 := hO0.own.cells
  clear p0 o0 hO0 hk0 v0 w0 s5 b4 l0
  (repeat' (first | with_reducible refine pS_nil ?_ | ((with_reducible refine c_guard ?_); refine pS_no rfl rfl ?_) | ((with_reducible refine c_move ?_); refine pS_op rfl rfl rfl ?_) | ((with_reducible refine c_assign ?_); refine pS_op rfl rfl rfl ?_) | ((with_reducible refine c_bin ?_); first | refine pS_op rfl (o_eqb rfl rfl rfl rfl) rfl ?_ | refine pS_op rfl (o_neb rfl rfl rfl rfl) rfl ?_ | refine pS_op rfl (o_add rfl rfl rfl (by omega) (by omega)) rfl ?_ | refine pS_op rfl (o_sub rfl rfl rfl (by omega) (by omega)) rfl ?_ | ((first | refine pS_lss rfl rfl rfl rfl rfl rfl ?_ ?_ | refine pS_leq rfl rfl rfl rfl rfl rfl ?_ ?_ | refine pS_gtr rfl rfl rfl rfl rfl rfl ?_ ?_ | refine pS_geq rfl rfl rfl rfl rfl rfl ?_ ?_ | refine pS_eql rfl rfl rfl rfl rfl rfl ?_ ?_ | refine pS_neq rfl rfl rfl rfl rfl rfl ?_ ?_) <;> intro h_ <;> first | (exfalso; omega) | skip) | (refine pS_eqs rfl rfl rfl rfl rfl rfl ?_ ?_ <;> intro h_) | (refine pS_nes rfl rfl rfl rfl rfl rfl ?_ ?_ <;> intro h_)) | ((with_reducible refine c_ix ?_); refine pS_op rfl rfl rfl ?_) | ((with_reducible refine c_load ?_); refine pS_op rfl (o_ld1 rfl rfl rfl rfl (getL_own s6.kv) rfl rfl) rfl ?_) | ((with_reducible refine c_store ?_); refine pS_op rfl (o_st1 rfl rfl rfl hc0 rfl rfl (getL_own g0) (by omega) rfl (by omega) (setL_own u0)) rfl ?_) | ((with_reducible refine c_ixa ?_); first | refine pS_op rfl (o_ixa1 rfl rfl rfl rfl rfl rfl (by omega) (by omega)) rfl ?_ | refine pS_op rfl rfl rfl ?_) | ((with_reducible refine c_alloc ?_); first | refine pS_op rfl (a_allocB rfl rfl) rfl ?_ | refine pS_op rfl (a_alloc rfl rfl) rfl ?_) | ((with_reducible refine c_box ?_); refine pS_op rfl (a_box rfl rfl rfl) rfl ?_) | ((with_reducible refine c_extract ?_); refine pS_op rfl rfl rfl ?_) | ((with_reducible refine c_blt ?_); first | refine pS_op rfl (o_max rfl rfl) rfl ?_ | refine pS_op rfl (o_min rfl rfl) rfl ?_ | refine pS_op rfl rfl rfl ?_) | refine pC_seq ?_ | (refine pC_reg ?_) | refine pC_T rfl ?_ | refine pC_F rfl ?_ | ((fail_if_success (refine pC_isloop ?_)); refine pC_block ?_) | refine pC_skip ?_ | refine pC_exit ?_ | refine pC_ret ⟨(fun _ e => nomatch e), _, rfl, ?_⟩ | first | (refine pS_op (o := ⟨_, .buildSlice _ _ _, _, _, _, _⟩) rfl (o_bsl (sz := 1) rfl rfl rfl rfl rfl rfl (by omega) (by omega) rfl) rfl ?_) | (refine pS_op (o := ⟨_, .unOp _ _ _, _, _, _, _⟩) rfl (o_neg rfl rfl (by omega) (by omega)) rfl ?_) | (refine pS_ot rfl rfl rfl rfl ?_)))
  have p1 := s6.app (L := [.row true [.sl (H.length + N2.length) 0 (ents A).length (ents A).length] 1 1 1 (eK 1)])
  have o1 := p1.kr 1 (by omega)
  have l1 : ((KS.set ⟨kk, kc FI FS⟩ 0 x0 ((⟨kk, kc FI FS⟩ : KS).c 0 ++ [.fv 39 (H.length + (N.length + 1))]) : KS).c 1).length = FI.length := by
    show (kc FI FS 1).length = _
    simp [kc]
  refine pS_appP rfl rfl rfl (fun _ => rfl) rfl rfl rfl (by omega) (by omega) (OwnP.of o1) (Rows.fresh rfl (Nat.le_refl _)) (by rw [l1]; omega) ?_
  rintro x1 N7 hO1 ⟨_, _, hk1⟩
  have g1 : getL N7 4 = some (keptB (KS.set ⟨kk, kc FI FS⟩ 0 x0 ((⟨kk, kc FI FS⟩ : KS).c 0 ++ [.fv 39 (H.length + (N.length + 1))]) : KS).k) := (hk1 4 _ p1.kv (own_var o1 p1.kv)).1
  obtain ⟨N8, u1, v1, w1⟩ := set_ok (b2 := keptB (upd (KS.set ⟨kk, kc FI FS⟩ 0 x0 ((⟨kk, kc FI FS⟩ : KS).c 0 ++ [.fv 39 (H.length + (N.length + 1))]) : KS).k 1 x1)) g1
  have b6 := w1 _ _ (by omega) (hk1 N.length _ (getL_base b5) (own_var o1 (getL_base b5))).1
  have s7 := (p1.setK (i := 1) (by omega) (c' := (KS.set ⟨kk, kc FI FS⟩ 0 x0 ((⟨kk, kc FI FS⟩ : KS).c 0 ++ [.fv 39 (H.length + (N.length + 1))]) : KS).c 1 ++ [.sl (H.length + N2.length) 0 (ents A).length (ents A).length]) (by rw [List.length_append]; exact hO1.own) hk1 u1).2
  have hc1 := hO1.own.cells
  clear p1 o1 hO1 hk1 v1 w1 s6 b5 l1
  (repeat' (first | with_reducible refine pS_nil ?_ | ((with_reducible refine c_guard ?_); refine pS_no rfl rfl ?_) | ((with_reducible refine c_move ?_); refine pS_op rfl rfl rfl ?_) | ((with_reducible refine c_assign ?_); refine pS_op rfl rfl rfl ?_) | ((with_reducible refine c_bin ?_); first | refine pS_op rfl (o_eqb rfl rfl rfl rfl) rfl ?_ | refine pS_op rfl (o_neb rfl rfl rfl rfl) rfl ?_ | refine pS_op rfl (o_add rfl rfl rfl (by omega) (by omega)) rfl ?_ | refine pS_op rfl (o_sub rfl rfl rfl (by omega) (by omega)) rfl ?_ | ((first | refine pS_lss rfl rfl rfl rfl rfl rfl ?_ ?_ | refine pS_leq rfl rfl rfl rfl rfl rfl ?_ ?_ | refine pS_gtr rfl rfl rfl rfl rfl rfl ?_ ?_ | refine pS_geq rfl rfl rfl rfl rfl rfl ?_ ?_ | refine pS_eql rfl rfl rfl rfl rfl rfl ?_ ?_ | refine pS_neq rfl rfl rfl rfl rfl rfl ?_ ?_) <;> intro h_ <;> first | (exfalso; omega) | skip) | (refine pS_eqs rfl rfl rfl rfl rfl rfl ?_ ?_ <;> intro h_) | (refine pS_nes rfl rfl rfl rfl rfl rfl ?_ ?_ <;> intro h_)) | ((with_reducible refine c_ix ?_); refine pS_op rfl rfl rfl ?_) | ((with_reducible refine c_load ?_); refine pS_op rfl (o_ld1 rfl rfl rfl rfl (getL_own s7.kv) rfl rfl) rfl ?_) | ((with_reducible refine c_store ?_); refine pS_op rfl (o_st1 rfl rfl rfl hc1 rfl rfl (getL_own g1) (by omega) rfl (by omega) (setL_own u1)) rfl ?_) | ((with_reducible refine c_ixa ?_); first | refine pS_op rfl (o_ixa1 rfl rfl rfl rfl rfl rfl (by omega) (by omega)) rfl ?_ | refine pS_op rfl rfl rfl ?_) | ((with_reducible refine c_alloc ?_); first | refine pS_op rfl (a_allocB rfl rfl) rfl ?_ | refine pS_op rfl (a_alloc rfl rfl) rfl ?_) | ((with_reducible refine c_box ?_); refine pS_op rfl (a_box rfl rfl rfl) rfl ?_) | ((with_reducible refine c_extract ?_); refine pS_op rfl rfl rfl ?_) | ((with_reducible refine c_blt ?_); first | refine pS_op rfl (o_max rfl rfl) rfl ?_ | refine pS_op rfl (o_min rfl rfl) rfl ?_ | refine pS_op rfl rfl rfl ?_) | refine pC_seq ?_ | (refine pC_reg ?_) | refine pC_T rfl ?_ | refine pC_F rfl ?_ | ((fail_if_success (refine pC_isloop ?_)); refine pC_block ?_) | refine pC_skip ?_ | refine pC_exit ?_ | refine pC_ret ⟨(fun _ e => nomatch e), _, rfl, ?_⟩ | first | (refine pS_op (o := ⟨_, .buildSlice _ _ _, _, _, _, _⟩) rfl (o_bsl (sz := 1) rfl rfl rfl rfl rfl rfl (by omega) (by omega) rfl) rfl ?_) | (refine pS_op (o := ⟨_, .unOp _ _ _, _, _, _, _⟩) rfl (o_neg rfl rfl (by omega) (by omega)) rfl ?_) | (refine pS_ot rfl rfl rfl rfl ?_)))
  have p2 := s7.app (L := [.row true [.sl (H.length + N3.length) 0 (ents A).length (ents A).length] 1 1 1 (eK 2)])
  have o2 := p2.kr 2 (by omega)
  have l2 : ((KS.set (KS.set ⟨kk, kc FI FS⟩ 0 x0 ((⟨kk, kc FI FS⟩ : KS).c 0 ++ [.fv 39 (H.length + (N.length + 1))])) 1 x1 ((KS.set ⟨kk, kc FI FS⟩ 0 x0 ((⟨kk, kc FI FS⟩ : KS).c 0 ++ [.fv 39 (H.length + (N.length + 1))]) : KS).c 1 ++ [.sl (H.length + N2.length) 0 (ents A).length (ents A).length]) : KS).c 2).length = FI.length := by
    show (kc FI FS 2).length = _
    simp [kc]
  refine pS_appP rfl rfl rfl (fun _ => rfl) rfl rfl rfl (by omega) (by omega) (OwnP.of o2) (Rows.fresh rfl (Nat.le_refl _)) (by rw [l2]; omega) ?_
  rintro x2 N9 hO2 ⟨_, _, hk2⟩
  have g2 : getL N9 4 = some (keptB (KS.set (KS.set ⟨kk, kc FI FS⟩ 0 x0 ((⟨kk, kc FI FS⟩ : KS).c 0 ++ [.fv 39 (H.length + (N.length + 1))])) 1 x1 ((KS.set ⟨kk, kc FI FS⟩ 0 x0 ((⟨kk, kc FI FS⟩ : KS).c 0 ++ [.fv 39 (H.length + (N.length + 1))]) : KS).c 1 ++ [.sl (H.length + N2.length) 0 (ents A).length (ents A).length]) : KS).k) := (hk2 4 _ p2.kv (own_var o2 p2.kv)).1
  obtain ⟨N10, u2, v2, w2⟩ := set_ok (b2 := keptB (upd (KS.set (KS.set ⟨kk, kc FI FS⟩ 0 x0 ((⟨kk, kc FI FS⟩ : KS).c 0 ++ [.fv 39 (H.length + (N.length + 1))])) 1 x1 ((KS.set ⟨kk, kc FI FS⟩ 0 x0 ((⟨kk, kc FI FS⟩ : KS).c 0 ++ [.fv 39 (H.length + (N.length + 1))]) : KS).c 1 ++ [.sl (H.length + N2.length) 0 (ents A).length (ents A).length]) : KS).k 2 x2)) g2
  have b7 := w2 _ _ (by omega) (hk2 N.length _ (getL_base b6) (own_var o2 (getL_base b6))).1
  have s8 := (p2.setK (i := 2) (by omega) (c' := (KS.set (KS.set ⟨kk, kc FI FS⟩ 0 x0 ((⟨kk, kc FI FS⟩ : KS).c 0 ++ [.fv 39 (H.length + (N.length + 1))])) 1 x1 ((KS.set ⟨kk, kc FI FS⟩ 0 x0 ((⟨kk, kc FI FS⟩ : KS).c 0 ++ [.fv 39 (H.length + (N.length + 1))]) : KS).c 1 ++ [.sl (H.length + N2.length) 0 (ents A).length (ents A).length]) : KS).c 2 ++ [.sl (H.length + N3.length) 0 (ents A).length (ents A).length]) (by rw [List.length_append]; exact hO2.own) hk2 u2).2
  have hc2 := hO2.own.cells
  clear p2 o2 hO2 hk2 v2 w2 s7 b6 l2
  have hwk := (s8.fam w List.mem_cons_self).ok
  rw [hV, hid, hx, hy] at hwk
  have g9 := walkI_v (K := K) (d := d + 2) (m := a.2.2.2) hwk
  (repeat' (first | with_reducible refine pS_nil ?_ | ((with_reducible refine c_guard ?_); refine pS_no rfl rfl ?_) | ((with_reducible refine c_move ?_); refine pS_op rfl rfl rfl ?_) | ((with_reducible refine c_assign ?_); refine pS_op rfl rfl rfl ?_) | ((with_reducible refine c_bin ?_); first | refine pS_op rfl (o_eqb rfl rfl rfl rfl) rfl ?_ | refine pS_op rfl (o_neb rfl rfl rfl rfl) rfl ?_ | refine pS_op rfl (o_add rfl rfl rfl (by omega) (by omega)) rfl ?_ | refine pS_op rfl (o_sub rfl rfl rfl (by omega) (by omega)) rfl ?_ | ((first | refine pS_lss rfl rfl rfl rfl rfl rfl ?_ ?_ | refine pS_leq rfl rfl rfl rfl rfl rfl ?_ ?_ | refine pS_gtr rfl rfl rfl rfl rfl rfl ?_ ?_ | refine pS_geq rfl rfl rfl rfl rfl rfl ?_ ?_ | refine pS_eql rfl rfl rfl rfl rfl rfl ?_ ?_ | refine pS_neq rfl rfl rfl rfl rfl rfl ?_ ?_) <;> intro h_ <;> first | (exfalso; omega) | skip) | (refine pS_eqs rfl rfl rfl rfl rfl rfl ?_ ?_ <;> intro h_) | (refine pS_nes rfl rfl rfl rfl rfl rfl ?_ ?_ <;> intro h_)) | ((with_reducible refine c_ix ?_); refine pS_op rfl rfl rfl ?_) | ((with_reducible refine c_load ?_); first | refine pS_op rfl (o_ld1 rfl rfl rfl rfl (getL_own s8.kv) rfl rfl) rfl ?_ | refine pS_op rfl (o_ld1 rfl rfl rfl rfl (getL_own b7) rfl rfl) rfl ?_) | ((with_reducible refine c_store ?_); refine pS_op rfl (o_st1 rfl rfl rfl hc2 rfl rfl (getL_own g2) (by omega) rfl (by omega) (setL_own u2)) rfl ?_) | ((with_reducible refine c_ixa ?_); first | refine pS_op rfl (o_ixa1 rfl rfl rfl rfl rfl rfl (by omega) (by omega)) rfl ?_ | refine pS_op rfl rfl rfl ?_) | ((with_reducible refine c_alloc ?_); first | refine pS_op rfl (a_allocB rfl rfl) rfl ?_ | refine pS_op rfl (a_alloc rfl rfl) rfl ?_) | ((with_reducible refine c_box ?_); refine pS_op rfl (a_box rfl rfl rfl) rfl ?_) | ((with_reducible refine c_extract ?_); refine pS_op rfl rfl rfl ?_) | ((with_reducible refine c_blt ?_); first | refine pS_op rfl (o_max rfl rfl) rfl ?_ | refine pS_op rfl (o_min rfl rfl) rfl ?_ | refine pS_op rfl rfl rfl ?_) | ((with_reducible refine c_call ?_); first | refine pS_cl rfl rfl rfl (g9) rfl ?_) | refine pC_seq ?_ | (refine pC_reg ?_) | refine pC_T rfl ?_ | refine pC_F rfl ?_ | ((fail_if_success (refine pC_isloop ?_)); refine pC_block ?_) | refine pC_skip ?_ | refine pC_exit ?_ | refine pC_ret ⟨(fun _ e => nomatch e), _, rfl, ?_⟩ | first | (refine pS_op (o := ⟨_, .buildSlice _ _ _, _, _, _, _⟩) rfl (o_bsl (sz := 1) rfl rfl rfl rfl rfl rfl (by omega) (by omega) rfl) rfl ?_) | (refine pS_op (o := ⟨_, .unOp _ _ _, _, _, _, _⟩) rfl (o_neg rfl rfl (by omega) (by omega)) rfl ?_) | (refine pS_ot rfl rfl rfl rfl ?_)))
  have hc : (KS.set (KS.set (KS.set ⟨kk, kc FI FS⟩ 0 x0 ((⟨kk, kc FI FS⟩ : KS).c 0 ++ [.fv 39 (H.length + (N.length + 1))])) 1 x1 ((KS.set ⟨kk, kc FI FS⟩ 0 x0 ((⟨kk, kc FI FS⟩ : KS).c 0 ++ [.fv 39 (H.length + (N.length + 1))]) : KS).c 1 ++ [.sl (H.length + N2.length) 0 (ents A).length (ents A).length])) 2 x2 ((KS.set (KS.set ⟨kk, kc FI FS⟩ 0 x0 ((⟨kk, kc FI FS⟩ : KS).c 0 ++ [.fv 39 (H.length + (N.length + 1))])) 1 x1 ((KS.set ⟨kk, kc FI FS⟩ 0 x0 ((⟨kk, kc FI FS⟩ : KS).c 0 ++ [.fv 39 (H.length + (N.length + 1))]) : KS).c 1 ++ [.sl (H.length + N2.length) 0 (ents A).length (ents A).length]) : KS).c 2 ++ [.sl (H.length + N3.length) 0 (ents A).length (ents A).length])).c = kc (FI ++ [w]) FS := by
    funext i
    match i with
    | 0 => show kc FI FS 0 ++ _ = _; simp [kc, hid]
    | 1 => show kc FI FS 1 ++ _ = _; simp [kc, hx]
    | 2 => show kc FI FS 2 ++ _ = _; simp [kc, hy]
    | 3 => rfl
    | 4 => rfl
    | 5 => rfl
    | _ + 6 => rfl
  have s9 : Stt H N10 ⟨mA, cnt A, ya, cL fI A⟩ ⟨mB, cnt B, yb, cL fS B⟩ ⟨mA, P.1, P.2, ents A⟩ ⟨mB, R.1, R.2, ents B⟩ ⟨(KS.set (KS.set (KS.set ⟨kk, kc FI FS⟩ 0 x0 ((⟨kk, kc FI FS⟩ : KS).c 0 ++ [.fv 39 (H.length + (N.length + 1))])) 1 x1 ((KS.set ⟨kk, kc FI FS⟩ 0 x0 ((⟨kk, kc FI FS⟩ : KS).c 0 ++ [.fv 39 (H.length + (N.length + 1))]) : KS).c 1 ++ [.sl (H.length + N2.length) 0 (ents A).length (ents A).length])) 2 x2 ((KS.set (KS.set ⟨kk, kc FI FS⟩ 0 x0 ((⟨kk, kc FI FS⟩ : KS).c 0 ++ [.fv 39 (H.length + (N.length + 1))])) 1 x1 ((KS.set ⟨kk, kc FI FS⟩ 0 x0 ((⟨kk, kc FI FS⟩ : KS).c 0 ++ [.fv 39 (H.length + (N.length + 1))]) : KS).c 1 ++ [.sl (H.length + N2.length) 0 (ents A).length (ents A).length]) : KS).c 2 ++ [.sl (H.length + N3.length) 0 (ents A).length (ents A).length])).k, (KS.set (KS.set (KS.set ⟨kk, kc FI FS⟩ 0 x0 ((⟨kk, kc FI FS⟩ : KS).c 0 ++ [.fv 39 (H.length + (N.length + 1))])) 1 x1 ((KS.set ⟨kk, kc FI FS⟩ 0 x0 ((⟨kk, kc FI FS⟩ : KS).c 0 ++ [.fv 39 (H.length + (N.length + 1))]) : KS).c 1 ++ [.sl (H.length + N2.length) 0 (ents A).length (ents A).length])) 2 x2 ((KS.set (KS.set ⟨kk, kc FI FS⟩ 0 x0 ((⟨kk, kc FI FS⟩ : KS).c 0 ++ [.fv 39 (H.length + (N.length + 1))])) 1 x1 ((KS.set ⟨kk, kc FI FS⟩ 0 x0 ((⟨kk, kc FI FS⟩ : KS).c 0 ++ [.fv 39 (H.length + (N.length + 1))]) : KS).c 1 ++ [.sl (H.length + N2.length) 0 (ents A).length (ents A).length]) : KS).c 2 ++ [.sl (H.length + N3.length) 0 (ents A).length (ents A).length])).c⟩ (w :: F) := s8
  rw [hc] at s9
  refine ⟨rfl, N10, rfl, (⟨s9, v.loA, v.loB, fun u hu => ?_, fun u hu => ⟨List.mem_cons_of_mem _ (v.fs u hu).1, (v.fs u hu).2⟩, by omega, by have := v.nB; omega, by rw [List.length_append]; simp; omega, by have := v.nS; omega⟩ : Iv H N10 mA mB A B ya yb P R _ (w :: F) (FI ++ [w]) FS (n + 1)).iw⟩
  rcases List.mem_append.1 hu with hu | hu
  · exact ⟨List.mem_cons_of_mem _ (v.fi u hu).1, (v.fi u hu).2⟩
  · obtain rfl : u = w := by simpa using hu
    exact ⟨List.mem_cons_self, hV⟩
end
end Go.Proofs.Ytgbdjeofbeibiaa.Pe
