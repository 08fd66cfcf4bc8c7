/- The walk of the program's Decode. -/
import Derived.Test.YtiafeogjknilmaaEnc
import Derived.Test.YtiafeogjknilmaaDecP
import Derived.Test.YtiafeogjknilmaaDraw
set_option linter.unusedVariables false
namespace Go.Proofs.Ytiafeogjknilmaa.B
open Go.RowKit
theorem size_Geometry : (Try.prog.info? 25).map (·.size) = some 3 := by kernel_rfl
theorem built_Geometry (x y z : Int) : Try.prog.built 25 [(0, .int .i64 x), (1, .int .i64 y), (2, .int .i64 z)] = some #[.int .i64 x, .int .i64 y, .int .i64 z] := by kernel_rfl
theorem one3 (x y z : Int) : (#[Value.int .i64 x, .int .i64 y, .int .i64 z] : Array Value).all (·.oneCell') = true := by first | kernel_rfl | simp [Value.oneCell'] | decide
theorem agg_Geometry : isAggT Try.prog 25 = true := by kernel_rfl
theorem alloc_Geometry (W : World) : (Instr.alloc 25 true (.tuple #[])).run Try.prog W = .ok (.pointer (some ⟨W.heap.size, 0, none⟩)) (W.alloc (.cells #[.int .i64 0, .int .i64 0, .int .i64 0] 25)) := by
  simp [Instr.alloc, go_sem]
set_option maxHeartbeats 8000000 in
theorem Dec (f : Nat → Int) (hf : Byt f) (n : Int) (w : World) :
    Calls Try.prog 10 #[.agg (arrV 1024 .u8 f), .int .i64 n] w fun e w' => e = .returned (decR f n) ∧ Below w.heap.size w w' := by
  have HF := Sd.mk hf
  have HU0 := fun W => Sd.mk (U32 f HF.out 8 W)
  have HU1 := fun W => Sd.mk (U32 f HF.out 12 W)
  have HU2 := fun W => Sd.mk (U32 f HF.out 16 W)
  have b0 := u32_bd hf 8
  have b1_ := u32_bd hf 12
  have b2_ := u32_bd hf 16
  have HR1 : Sd (¬ goodD f n → decR f n = badD) := ⟨fun h => by unfold decR; rw [if_neg h]⟩
  have HR2 : Sd (goodD f n → decR f n = .tuple #[.agg (intsV (layL (u32 f 8) (u32 f 12) (u32 f 16))), .int .i64 0]) := ⟨fun h => by unfold decR; rw [if_pos h]⟩
  have HGD : Sd (goodD f n ↔ mayBe (u32 f 8) (u32 f 12) (u32 f 16) ∧ u32 f 8 ≤ n ∧ eqB 1024 (encF (layL (u32 f 8) (u32 f 12) (u32 f 16))) f = true) := ⟨Iff.rfl⟩
  generalize goodD f n = gd at *
  generalize decR f n = R at *
  generalize u32 f 8 = b at *
  generalize u32 f 12 = l at *
  generalize u32 f 16 = i at *
  have e0 : IntKind.i64.wrap b = b := IntWalk.i64_in _ (by omega)
  have e1 : IntKind.i64.wrap l = l := IntWalk.i64_in _ (by omega)
  have e2 : IntKind.i64.wrap i = i := IntWalk.i64_in _ (by omega)
  clear hf
  go_enter Try.func10, Try.ntmps10
  go_wp2_with fail
  have A1 := Sd.mk (heap_alloc2_old w (.cells (arrV 1024 .u8 f) 23) (.cells #[.int .i64 0, .int .i64 0, .int .i64 0, .int .i64 0, .int .i64 0, .int .i64 0, .int .i64 0, .int .i64 0, .int .i64 0] 27))
  have A2 := Sd.mk (heap_alloc2_new w (.cells (arrV 1024 .u8 f) 23) (.cells #[.int .i64 0, .int .i64 0, .int .i64 0, .int .i64 0, .int .i64 0, .int .i64 0, .int .i64 0, .int .i64 0, .int .i64 0] 27))
  have HB := Sd.mk (b2 w (.cells (arrV 1024 .u8 f) 23) (.cells #[.int .i64 0, .int .i64 0, .int .i64 0, .int .i64 0, .int .i64 0, .int .i64 0, .int .i64 0, .int .i64 0, .int .i64 0] 27))
  refine region_clsJ (n := 12) (.cells #[.int .i64 b, .int .i64 l, .int .i64 i] 25) ?F (by kernel_rfl) rfl ?h1 ?h2
  case h1 =>
    intro J w_ hs_
    have HS := Sd.mk hs_
    clear hs_
    refine wpAnyH_take (i := 0) (oi := { dst := some 11, op := Op.load 23 (Operand.tmp 2), type := 23, pos := "shape.go:65", after := #[], guard := none }) (v := .agg (arrV 1024 .u8 f)) rfl (by kernel_rfl) (by kernel_rfl) (by kernel_rfl) (fun _ _ _ h => h) (yi_ld_arr 23 rfl rfl size_Block agg_Block rfl (fun w hw => cls_blk A1.out hw)) HS.out ?_
    simp only [Act.put, List.setIfInBounds_toArray, List.set_cons_zero, List.set_cons_succ]
    refine wpAnyH_take (i := 3) (oi := { dst := some 14, op := Op.load 23 (Operand.tmp 2), type := 23, pos := "shape.go:65", after := #[], guard := none }) (v := .agg (arrV 1024 .u8 f)) rfl (by kernel_rfl) (by kernel_rfl) (by kernel_rfl) (fun _ _ _ h => h) (yi_ld_arr 23 rfl rfl size_Block agg_Block rfl (fun w hw => cls_blk A1.out hw)) HS.out ?_
    simp only [Act.put, List.setIfInBounds_toArray, List.set_cons_zero, List.set_cons_succ]
    refine wpAnyH_take (i := 6) (oi := { dst := some 17, op := Op.load 23 (Operand.tmp 2), type := 23, pos := "shape.go:65", after := #[], guard := none }) (v := .agg (arrV 1024 .u8 f)) rfl (by kernel_rfl) (by kernel_rfl) (by kernel_rfl) (fun _ _ _ h => h) (yi_ld_arr 23 rfl rfl size_Block agg_Block rfl (fun w hw => cls_blk A1.out hw)) HS.out ?_
    simp only [Act.put, List.setIfInBounds_toArray, List.set_cons_zero, List.set_cons_succ]
    refine wpAnyH_all (rs := [1, 10]) (by kernel_rfl) (by decide) ?_
    intro i_ hi_
    simp only [List.mem_cons, List.not_mem_nil, or_false] at hi_
    rcases hi_ with rfl | rfl
    · refine wpOp_call (o := { dst := some 12, op := Op.call { callee := Callee.value (Operand.func 21), args := #[Operand.tmp 11, Operand.const (Value.int IntKind.i64 8)], argTypes := #[23, 3] }, type := 45, pos := "shape.go:65", after := #[{ on := 0, ground := Ground.data }], guard := none }) rfl rfl rfl Try.func21 (by kernel_rfl) rfl (by simp only [List.map_toArray, List.map_cons, List.map_nil]; rfl) ((HU0 _).out) ?_
      intro w_ hd_
      have n_HS := Sd.mk (cls_then HS.out hd_)
      clear hd_ HS
      have HS := n_HS
      clear n_HS
      refine ⟨HS.out, ?_⟩
      simp only [Act.put, List.setIfInBounds_toArray, List.set_cons_zero, List.set_cons_succ]
      refine wpAnyH_take (i := 2) (oi := { dst := some 13, op := Op.convert 45 3 (Operand.tmp 12), type := 3, pos := "shape.go:65", after := #[{ on := 1, ground := Ground.data }], guard := none }) (v := .int .i64 b) rfl (by kernel_rfl) (by kernel_rfl) (by kernel_rfl) (fun _ _ _ h => h) (yi_conv 45 3 rfl rfl Try.underlying45 Try.underlying3 rfl e0) HS.out ?_
      simp only [Act.put, List.setIfInBounds_toArray, List.set_cons_zero, List.set_cons_succ]
      refine wpAnyH_all (rs := [4, 10]) (by kernel_rfl) (by decide) ?_
      intro i_ hi_
      simp only [List.mem_cons, List.not_mem_nil, or_false] at hi_
      rcases hi_ with rfl | rfl
      · refine wpOp_call (o := { dst := some 15, op := Op.call { callee := Callee.value (Operand.func 21), args := #[Operand.tmp 14, Operand.const (Value.int IntKind.i64 12)], argTypes := #[23, 3] }, type := 45, pos := "shape.go:65", after := #[{ on := 3, ground := Ground.data }, { on := 1, ground := Ground.chain }], guard := none }) rfl rfl rfl Try.func21 (by kernel_rfl) rfl (by simp only [List.map_toArray, List.map_cons, List.map_nil]; rfl) ((HU1 _).out) ?_
        intro w_ hd_
        have n_HS := Sd.mk (cls_then HS.out hd_)
        clear hd_ HS
        have HS := n_HS
        clear n_HS
        refine ⟨HS.out, ?_⟩
        simp only [Act.put, List.setIfInBounds_toArray, List.set_cons_zero, List.set_cons_succ]
        refine wpAnyH_take (i := 5) (oi := { dst := some 16, op := Op.convert 45 3 (Operand.tmp 15), type := 3, pos := "shape.go:65", after := #[{ on := 4, ground := Ground.data }], guard := none }) (v := .int .i64 l) rfl (by kernel_rfl) (by kernel_rfl) (by kernel_rfl) (fun _ _ _ h => h) (yi_conv 45 3 rfl rfl Try.underlying45 Try.underlying3 rfl e1) HS.out ?_
        simp only [Act.put, List.setIfInBounds_toArray, List.set_cons_zero, List.set_cons_succ]
        refine wpAnyH_all (rs := [7, 10]) (by kernel_rfl) (by decide) ?_
        intro i_ hi_
        simp only [List.mem_cons, List.not_mem_nil, or_false] at hi_
        rcases hi_ with rfl | rfl
        · refine wpOp_call (o := { dst := some 18, op := Op.call { callee := Callee.value (Operand.func 21), args := #[Operand.tmp 17, Operand.const (Value.int IntKind.i64 16)], argTypes := #[23, 3] }, type := 45, pos := "shape.go:65", after := #[{ on := 6, ground := Ground.data }, { on := 4, ground := Ground.chain }], guard := none }) rfl rfl rfl Try.func21 (by kernel_rfl) rfl (by simp only [List.map_toArray, List.map_cons, List.map_nil]; rfl) ((HU2 _).out) ?_
          intro w_ hd_
          have n_HS := Sd.mk (cls_then HS.out hd_)
          clear hd_ HS
          have HS := n_HS
          clear n_HS
          refine ⟨HS.out, ?_⟩
          simp only [Act.put, List.setIfInBounds_toArray, List.set_cons_zero, List.set_cons_succ]
          refine wpAnyH_take (i := 8) (oi := { dst := some 19, op := Op.convert 45 3 (Operand.tmp 18), type := 3, pos := "shape.go:65", after := #[{ on := 7, ground := Ground.data }], guard := none }) (v := .int .i64 i) rfl (by kernel_rfl) (by kernel_rfl) (by kernel_rfl) (fun _ _ _ h => h) (yi_conv 45 3 rfl rfl Try.underlying45 Try.underlying3 rfl e2) HS.out ?_
          simp only [Act.put, List.setIfInBounds_toArray, List.set_cons_zero, List.set_cons_succ]
          refine wpAnyH_take (i := 9) (oi := { dst := some 20, op := Op.build 25 #[(0, Operand.tmp 13), (1, Operand.tmp 16), (2, Operand.tmp 19)], type := 25, pos := "shape.go:65", after := #[{ on := 2, ground := Ground.data }, { on := 5, ground := Ground.data }, { on := 8, ground := Ground.data }], guard := none }) (v := .agg #[.int .i64 b, .int .i64 l, .int .i64 i]) rfl (by kernel_rfl) (by kernel_rfl) (by kernel_rfl) (fun _ _ _ h => h) (yi_build 25 (vs := [(0, .int .i64 b), (1, .int .i64 l), (2, .int .i64 i)]) rfl rfl rfl (built_Geometry b l i)) HS.out ?_
          simp only [Act.put, List.setIfInBounds_toArray, List.set_cons_zero, List.set_cons_succ]
          refine wpAnyH_all (rs := [10]) (by kernel_rfl) (by decide) ?_
          intro i_ hi_
          simp only [List.mem_cons, List.not_mem_nil, or_false] at hi_
          subst hi_
          refine wpOp_alloc (o := { dst := some 6, op := Op.alloc 25, type := 0, pos := "shape.go:65", after := #[], guard := none }) 25 (z := #[.int .i64 0, .int .i64 0, .int .i64 0]) rfl rfl rfl (alloc_Geometry) ?_
          intro g_ w_ hg_ hw_
          have n_HS := Sd.mk (by rw [hw_]; exact cls_alloc HS.out _ : Cls _ w_)
          have HGE := Sd.mk (by rw [hg_]; exact HS.out.size : _ ≤ g_)
          have HG := Sd.mk (by rw [hw_, hg_]; exact heap_alloc_new _ _ : w_.heap[g_]? = some (.cells #[.int .i64 0, .int .i64 0, .int .i64 0] 25))
          clear hg_ hw_ HS
          have HS := n_HS
          clear n_HS
          refine ⟨HS.out, ?_⟩
          simp only [Act.put, List.setIfInBounds_toArray, List.set_cons_zero, List.set_cons_succ]
          refine wpAnyH_all (rs := [11]) (by kernel_rfl) (by decide) ?_
          intro i_ hi_
          simp only [List.mem_cons, List.not_mem_nil, or_false] at hi_
          subst hi_
          refine wpOp_st (o := { dst := none, op := Op.store 25 (Operand.tmp 6) (Operand.tmp 20), type := 0, pos := "shape.go:65", after := #[{ on := 10, ground := Ground.data }, { on := 9, ground := Ground.data }, { on := 7, ground := Ground.chain }, { on := 0, ground := Ground.phase }, { on := 1, ground := Ground.phase }, { on := 2, ground := Ground.phase }, { on := 3, ground := Ground.phase }, { on := 4, ground := Ground.phase }, { on := 5, ground := Ground.phase }, { on := 6, ground := Ground.phase }, { on := 7, ground := Ground.phase }, { on := 8, ground := Ground.phase }, { on := 9, ground := Ground.phase }, { on := 10, ground := Ground.phase }], guard := none }) 25 rfl rfl rfl rfl size_Geometry rfl rfl HG.out rfl rfl (one3 b l i) ?_
          intro w_ hw_ hgr_
          have n_HS := Sd.mk (cls_grown HS.out hgr_ HGE.out)
          have n_HG := Sd.mk hw_
          clear hw_ hgr_ HS HG
          have HS := n_HS
          have HG := n_HG
          clear n_HS n_HG
          refine ⟨HS.out, ?_⟩
          refine wpAnyH_done (by kernel_rfl) ?_ _
          exact J _ _ HS.out HGE.out HG.out
        · refine wpOp_alloc (o := { dst := some 6, op := Op.alloc 25, type := 0, pos := "shape.go:65", after := #[], guard := none }) 25 (z := #[.int .i64 0, .int .i64 0, .int .i64 0]) rfl rfl rfl (alloc_Geometry) ?_
          intro g_ w_ hg_ hw_
          have n_HS := Sd.mk (by rw [hw_]; exact cls_alloc HS.out _ : Cls _ w_)
          have HGE := Sd.mk (by rw [hg_]; exact HS.out.size : _ ≤ g_)
          have HG := Sd.mk (by rw [hw_, hg_]; exact heap_alloc_new _ _ : w_.heap[g_]? = some (.cells #[.int .i64 0, .int .i64 0, .int .i64 0] 25))
          clear hg_ hw_ HS
          have HS := n_HS
          clear n_HS
          refine ⟨HS.out, ?_⟩
          simp only [Act.put, List.setIfInBounds_toArray, List.set_cons_zero, List.set_cons_succ]
          refine wpAnyH_all (rs := [7]) (by kernel_rfl) (by decide) ?_
          intro i_ hi_
          simp only [List.mem_cons, List.not_mem_nil, or_false] at hi_
          subst hi_
          refine wpOp_call (o := { dst := some 18, op := Op.call { callee := Callee.value (Operand.func 21), args := #[Operand.tmp 17, Operand.const (Value.int IntKind.i64 16)], argTypes := #[23, 3] }, type := 45, pos := "shape.go:65", after := #[{ on := 6, ground := Ground.data }, { on := 4, ground := Ground.chain }], guard := none }) rfl rfl rfl Try.func21 (by kernel_rfl) rfl (by simp only [List.map_toArray, List.map_cons, List.map_nil]; rfl) ((HU2 _).out) ?_
          intro w_ hd_
          have n_HS := Sd.mk (cls_then HS.out hd_)
          have n_HG := Sd.mk (bblk HG.out hd_)
          clear hd_ HS HG
          have HS := n_HS
          clear n_HS
          have HG := n_HG
          clear n_HG
          refine ⟨HS.out, ?_⟩
          simp only [Act.put, List.setIfInBounds_toArray, List.set_cons_zero, List.set_cons_succ]
          refine wpAnyH_take (i := 8) (oi := { dst := some 19, op := Op.convert 45 3 (Operand.tmp 18), type := 3, pos := "shape.go:65", after := #[{ on := 7, ground := Ground.data }], guard := none }) (v := .int .i64 i) rfl (by kernel_rfl) (by kernel_rfl) (by kernel_rfl) (fun _ _ _ h => h) (yi_conv 45 3 rfl rfl Try.underlying45 Try.underlying3 rfl e2) HS.out ?_
          simp only [Act.put, List.setIfInBounds_toArray, List.set_cons_zero, List.set_cons_succ]
          refine wpAnyH_take (i := 9) (oi := { dst := some 20, op := Op.build 25 #[(0, Operand.tmp 13), (1, Operand.tmp 16), (2, Operand.tmp 19)], type := 25, pos := "shape.go:65", after := #[{ on := 2, ground := Ground.data }, { on := 5, ground := Ground.data }, { on := 8, ground := Ground.data }], guard := none }) (v := .agg #[.int .i64 b, .int .i64 l, .int .i64 i]) rfl (by kernel_rfl) (by kernel_rfl) (by kernel_rfl) (fun _ _ _ h => h) (yi_build 25 (vs := [(0, .int .i64 b), (1, .int .i64 l), (2, .int .i64 i)]) rfl rfl rfl (built_Geometry b l i)) HS.out ?_
          simp only [Act.put, List.setIfInBounds_toArray, List.set_cons_zero, List.set_cons_succ]
          refine wpAnyH_all (rs := [11]) (by kernel_rfl) (by decide) ?_
          intro i_ hi_
          simp only [List.mem_cons, List.not_mem_nil, or_false] at hi_
          subst hi_
          refine wpOp_st (o := { dst := none, op := Op.store 25 (Operand.tmp 6) (Operand.tmp 20), type := 0, pos := "shape.go:65", after := #[{ on := 10, ground := Ground.data }, { on := 9, ground := Ground.data }, { on := 7, ground := Ground.chain }, { on := 0, ground := Ground.phase }, { on := 1, ground := Ground.phase }, { on := 2, ground := Ground.phase }, { on := 3, ground := Ground.phase }, { on := 4, ground := Ground.phase }, { on := 5, ground := Ground.phase }, { on := 6, ground := Ground.phase }, { on := 7, ground := Ground.phase }, { on := 8, ground := Ground.phase }, { on := 9, ground := Ground.phase }, { on := 10, ground := Ground.phase }], guard := none }) 25 rfl rfl rfl rfl size_Geometry rfl rfl HG.out rfl rfl (one3 b l i) ?_
          intro w_ hw_ hgr_
          have n_HS := Sd.mk (cls_grown HS.out hgr_ HGE.out)
          have n_HG := Sd.mk hw_
          clear hw_ hgr_ HS HG
          have HS := n_HS
          have HG := n_HG
          clear n_HS n_HG
          refine ⟨HS.out, ?_⟩
          refine wpAnyH_done (by kernel_rfl) ?_ _
          exact J _ _ HS.out HGE.out HG.out
      · refine wpOp_alloc (o := { dst := some 6, op := Op.alloc 25, type := 0, pos := "shape.go:65", after := #[], guard := none }) 25 (z := #[.int .i64 0, .int .i64 0, .int .i64 0]) rfl rfl rfl (alloc_Geometry) ?_
        intro g_ w_ hg_ hw_
        have n_HS := Sd.mk (by rw [hw_]; exact cls_alloc HS.out _ : Cls _ w_)
        have HGE := Sd.mk (by rw [hg_]; exact HS.out.size : _ ≤ g_)
        have HG := Sd.mk (by rw [hw_, hg_]; exact heap_alloc_new _ _ : w_.heap[g_]? = some (.cells #[.int .i64 0, .int .i64 0, .int .i64 0] 25))
        clear hg_ hw_ HS
        have HS := n_HS
        clear n_HS
        refine ⟨HS.out, ?_⟩
        simp only [Act.put, List.setIfInBounds_toArray, List.set_cons_zero, List.set_cons_succ]
        refine wpAnyH_all (rs := [4]) (by kernel_rfl) (by decide) ?_
        intro i_ hi_
        simp only [List.mem_cons, List.not_mem_nil, or_false] at hi_
        subst hi_
        refine wpOp_call (o := { dst := some 15, op := Op.call { callee := Callee.value (Operand.func 21), args := #[Operand.tmp 14, Operand.const (Value.int IntKind.i64 12)], argTypes := #[23, 3] }, type := 45, pos := "shape.go:65", after := #[{ on := 3, ground := Ground.data }, { on := 1, ground := Ground.chain }], guard := none }) rfl rfl rfl Try.func21 (by kernel_rfl) rfl (by simp only [List.map_toArray, List.map_cons, List.map_nil]; rfl) ((HU1 _).out) ?_
        intro w_ hd_
        have n_HS := Sd.mk (cls_then HS.out hd_)
        have n_HG := Sd.mk (bblk HG.out hd_)
        clear hd_ HS HG
        have HS := n_HS
        clear n_HS
        have HG := n_HG
        clear n_HG
        refine ⟨HS.out, ?_⟩
        simp only [Act.put, List.setIfInBounds_toArray, List.set_cons_zero, List.set_cons_succ]
        refine wpAnyH_take (i := 5) (oi := { dst := some 16, op := Op.convert 45 3 (Operand.tmp 15), type := 3, pos := "shape.go:65", after := #[{ on := 4, ground := Ground.data }], guard := none }) (v := .int .i64 l) rfl (by kernel_rfl) (by kernel_rfl) (by kernel_rfl) (fun _ _ _ h => h) (yi_conv 45 3 rfl rfl Try.underlying45 Try.underlying3 rfl e1) HS.out ?_
        simp only [Act.put, List.setIfInBounds_toArray, List.set_cons_zero, List.set_cons_succ]
        refine wpAnyH_all (rs := [7]) (by kernel_rfl) (by decide) ?_
        intro i_ hi_
        simp only [List.mem_cons, List.not_mem_nil, or_false] at hi_
        subst hi_
        refine wpOp_call (o := { dst := some 18, op := Op.call { callee := Callee.value (Operand.func 21), args := #[Operand.tmp 17, Operand.const (Value.int IntKind.i64 16)], argTypes := #[23, 3] }, type := 45, pos := "shape.go:65", after := #[{ on := 6, ground := Ground.data }, { on := 4, ground := Ground.chain }], guard := none }) rfl rfl rfl Try.func21 (by kernel_rfl) rfl (by simp only [List.map_toArray, List.map_cons, List.map_nil]; rfl) ((HU2 _).out) ?_
        intro w_ hd_
        have n_HS := Sd.mk (cls_then HS.out hd_)
        have n_HG := Sd.mk (bblk HG.out hd_)
        clear hd_ HS HG
        have HS := n_HS
        clear n_HS
        have HG := n_HG
        clear n_HG
        refine ⟨HS.out, ?_⟩
        simp only [Act.put, List.setIfInBounds_toArray, List.set_cons_zero, List.set_cons_succ]
        refine wpAnyH_take (i := 8) (oi := { dst := some 19, op := Op.convert 45 3 (Operand.tmp 18), type := 3, pos := "shape.go:65", after := #[{ on := 7, ground := Ground.data }], guard := none }) (v := .int .i64 i) rfl (by kernel_rfl) (by kernel_rfl) (by kernel_rfl) (fun _ _ _ h => h) (yi_conv 45 3 rfl rfl Try.underlying45 Try.underlying3 rfl e2) HS.out ?_
        simp only [Act.put, List.setIfInBounds_toArray, List.set_cons_zero, List.set_cons_succ]
        refine wpAnyH_take (i := 9) (oi := { dst := some 20, op := Op.build 25 #[(0, Operand.tmp 13), (1, Operand.tmp 16), (2, Operand.tmp 19)], type := 25, pos := "shape.go:65", after := #[{ on := 2, ground := Ground.data }, { on := 5, ground := Ground.data }, { on := 8, ground := Ground.data }], guard := none }) (v := .agg #[.int .i64 b, .int .i64 l, .int .i64 i]) rfl (by kernel_rfl) (by kernel_rfl) (by kernel_rfl) (fun _ _ _ h => h) (yi_build 25 (vs := [(0, .int .i64 b), (1, .int .i64 l), (2, .int .i64 i)]) rfl rfl rfl (built_Geometry b l i)) HS.out ?_
        simp only [Act.put, List.setIfInBounds_toArray, List.set_cons_zero, List.set_cons_succ]
        refine wpAnyH_all (rs := [11]) (by kernel_rfl) (by decide) ?_
        intro i_ hi_
        simp only [List.mem_cons, List.not_mem_nil, or_false] at hi_
        subst hi_
        refine wpOp_st (o := { dst := none, op := Op.store 25 (Operand.tmp 6) (Operand.tmp 20), type := 0, pos := "shape.go:65", after := #[{ on := 10, ground := Ground.data }, { on := 9, ground := Ground.data }, { on := 7, ground := Ground.chain }, { on := 0, ground := Ground.phase }, { on := 1, ground := Ground.phase }, { on := 2, ground := Ground.phase }, { on := 3, ground := Ground.phase }, { on := 4, ground := Ground.phase }, { on := 5, ground := Ground.phase }, { on := 6, ground := Ground.phase }, { on := 7, ground := Ground.phase }, { on := 8, ground := Ground.phase }, { on := 9, ground := Ground.phase }, { on := 10, ground := Ground.phase }], guard := none }) 25 rfl rfl rfl rfl size_Geometry rfl rfl HG.out rfl rfl (one3 b l i) ?_
        intro w_ hw_ hgr_
        have n_HS := Sd.mk (cls_grown HS.out hgr_ HGE.out)
        have n_HG := Sd.mk hw_
        clear hw_ hgr_ HS HG
        have HS := n_HS
        have HG := n_HG
        clear n_HS n_HG
        refine ⟨HS.out, ?_⟩
        refine wpAnyH_done (by kernel_rfl) ?_ _
        exact J _ _ HS.out HGE.out HG.out
    · refine wpOp_alloc (o := { dst := some 6, op := Op.alloc 25, type := 0, pos := "shape.go:65", after := #[], guard := none }) 25 (z := #[.int .i64 0, .int .i64 0, .int .i64 0]) rfl rfl rfl (alloc_Geometry) ?_
      intro g_ w_ hg_ hw_
      have n_HS := Sd.mk (by rw [hw_]; exact cls_alloc HS.out _ : Cls _ w_)
      have HGE := Sd.mk (by rw [hg_]; exact HS.out.size : _ ≤ g_)
      have HG := Sd.mk (by rw [hw_, hg_]; exact heap_alloc_new _ _ : w_.heap[g_]? = some (.cells #[.int .i64 0, .int .i64 0, .int .i64 0] 25))
      clear hg_ hw_ HS
      have HS := n_HS
      clear n_HS
      refine ⟨HS.out, ?_⟩
      simp only [Act.put, List.setIfInBounds_toArray, List.set_cons_zero, List.set_cons_succ]
      refine wpAnyH_all (rs := [1]) (by kernel_rfl) (by decide) ?_
      intro i_ hi_
      simp only [List.mem_cons, List.not_mem_nil, or_false] at hi_
      subst hi_
      refine wpOp_call (o := { dst := some 12, op := Op.call { callee := Callee.value (Operand.func 21), args := #[Operand.tmp 11, Operand.const (Value.int IntKind.i64 8)], argTypes := #[23, 3] }, type := 45, pos := "shape.go:65", after := #[{ on := 0, ground := Ground.data }], guard := none }) rfl rfl rfl Try.func21 (by kernel_rfl) rfl (by simp only [List.map_toArray, List.map_cons, List.map_nil]; rfl) ((HU0 _).out) ?_
      intro w_ hd_
      have n_HS := Sd.mk (cls_then HS.out hd_)
      have n_HG := Sd.mk (bblk HG.out hd_)
      clear hd_ HS HG
      have HS := n_HS
      clear n_HS
      have HG := n_HG
      clear n_HG
      refine ⟨HS.out, ?_⟩
      simp only [Act.put, List.setIfInBounds_toArray, List.set_cons_zero, List.set_cons_succ]
      refine wpAnyH_take (i := 2) (oi := { dst := some 13, op := Op.convert 45 3 (Operand.tmp 12), type := 3, pos := "shape.go:65", after := #[{ on := 1, ground := Ground.data }], guard := none }) (v := .int .i64 b) rfl (by kernel_rfl) (by kernel_rfl) (by kernel_rfl) (fun _ _ _ h => h) (yi_conv 45 3 rfl rfl Try.underlying45 Try.underlying3 rfl e0) HS.out ?_
      simp only [Act.put, List.setIfInBounds_toArray, List.set_cons_zero, List.set_cons_succ]
      refine wpAnyH_all (rs := [4]) (by kernel_rfl) (by decide) ?_
      intro i_ hi_
      simp only [List.mem_cons, List.not_mem_nil, or_false] at hi_
      subst hi_
      refine wpOp_call (o := { dst := some 15, op := Op.call { callee := Callee.value (Operand.func 21), args := #[Operand.tmp 14, Operand.const (Value.int IntKind.i64 12)], argTypes := #[23, 3] }, type := 45, pos := "shape.go:65", after := #[{ on := 3, ground := Ground.data }, { on := 1, ground := Ground.chain }], guard := none }) rfl rfl rfl Try.func21 (by kernel_rfl) rfl (by simp only [List.map_toArray, List.map_cons, List.map_nil]; rfl) ((HU1 _).out) ?_
      intro w_ hd_
      have n_HS := Sd.mk (cls_then HS.out hd_)
      have n_HG := Sd.mk (bblk HG.out hd_)
      clear hd_ HS HG
      have HS := n_HS
      clear n_HS
      have HG := n_HG
      clear n_HG
      refine ⟨HS.out, ?_⟩
      simp only [Act.put, List.setIfInBounds_toArray, List.set_cons_zero, List.set_cons_succ]
      refine wpAnyH_take (i := 5) (oi := { dst := some 16, op := Op.convert 45 3 (Operand.tmp 15), type := 3, pos := "shape.go:65", after := #[{ on := 4, ground := Ground.data }], guard := none }) (v := .int .i64 l) rfl (by kernel_rfl) (by kernel_rfl) (by kernel_rfl) (fun _ _ _ h => h) (yi_conv 45 3 rfl rfl Try.underlying45 Try.underlying3 rfl e1) HS.out ?_
      simp only [Act.put, List.setIfInBounds_toArray, List.set_cons_zero, List.set_cons_succ]
      refine wpAnyH_all (rs := [7]) (by kernel_rfl) (by decide) ?_
      intro i_ hi_
      simp only [List.mem_cons, List.not_mem_nil, or_false] at hi_
      subst hi_
      refine wpOp_call (o := { dst := some 18, op := Op.call { callee := Callee.value (Operand.func 21), args := #[Operand.tmp 17, Operand.const (Value.int IntKind.i64 16)], argTypes := #[23, 3] }, type := 45, pos := "shape.go:65", after := #[{ on := 6, ground := Ground.data }, { on := 4, ground := Ground.chain }], guard := none }) rfl rfl rfl Try.func21 (by kernel_rfl) rfl (by simp only [List.map_toArray, List.map_cons, List.map_nil]; rfl) ((HU2 _).out) ?_
      intro w_ hd_
      have n_HS := Sd.mk (cls_then HS.out hd_)
      have n_HG := Sd.mk (bblk HG.out hd_)
      clear hd_ HS HG
      have HS := n_HS
      clear n_HS
      have HG := n_HG
      clear n_HG
      refine ⟨HS.out, ?_⟩
      simp only [Act.put, List.setIfInBounds_toArray, List.set_cons_zero, List.set_cons_succ]
      refine wpAnyH_take (i := 8) (oi := { dst := some 19, op := Op.convert 45 3 (Operand.tmp 18), type := 3, pos := "shape.go:65", after := #[{ on := 7, ground := Ground.data }], guard := none }) (v := .int .i64 i) rfl (by kernel_rfl) (by kernel_rfl) (by kernel_rfl) (fun _ _ _ h => h) (yi_conv 45 3 rfl rfl Try.underlying45 Try.underlying3 rfl e2) HS.out ?_
      simp only [Act.put, List.setIfInBounds_toArray, List.set_cons_zero, List.set_cons_succ]
      refine wpAnyH_take (i := 9) (oi := { dst := some 20, op := Op.build 25 #[(0, Operand.tmp 13), (1, Operand.tmp 16), (2, Operand.tmp 19)], type := 25, pos := "shape.go:65", after := #[{ on := 2, ground := Ground.data }, { on := 5, ground := Ground.data }, { on := 8, ground := Ground.data }], guard := none }) (v := .agg #[.int .i64 b, .int .i64 l, .int .i64 i]) rfl (by kernel_rfl) (by kernel_rfl) (by kernel_rfl) (fun _ _ _ h => h) (yi_build 25 (vs := [(0, .int .i64 b), (1, .int .i64 l), (2, .int .i64 i)]) rfl rfl rfl (built_Geometry b l i)) HS.out ?_
      simp only [Act.put, List.setIfInBounds_toArray, List.set_cons_zero, List.set_cons_succ]
      refine wpAnyH_all (rs := [11]) (by kernel_rfl) (by decide) ?_
      intro i_ hi_
      simp only [List.mem_cons, List.not_mem_nil, or_false] at hi_
      subst hi_
      refine wpOp_st (o := { dst := none, op := Op.store 25 (Operand.tmp 6) (Operand.tmp 20), type := 0, pos := "shape.go:65", after := #[{ on := 10, ground := Ground.data }, { on := 9, ground := Ground.data }, { on := 7, ground := Ground.chain }, { on := 0, ground := Ground.phase }, { on := 1, ground := Ground.phase }, { on := 2, ground := Ground.phase }, { on := 3, ground := Ground.phase }, { on := 4, ground := Ground.phase }, { on := 5, ground := Ground.phase }, { on := 6, ground := Ground.phase }, { on := 7, ground := Ground.phase }, { on := 8, ground := Ground.phase }, { on := 9, ground := Ground.phase }, { on := 10, ground := Ground.phase }], guard := none }) 25 rfl rfl rfl rfl size_Geometry rfl rfl HG.out rfl rfl (one3 b l i) ?_
      intro w_ hw_ hgr_
      have n_HS := Sd.mk (cls_grown HS.out hgr_ HGE.out)
      have n_HG := Sd.mk hw_
      clear hw_ hgr_ HS HG
      have HS := n_HS
      have HG := n_HG
      clear n_HS n_HG
      refine ⟨HS.out, ?_⟩
      refine wpAnyH_done (by kernel_rfl) ?_ _
      exact J _ _ HS.out HGE.out HG.out
  case h2 =>
    intro g w1 hq hge hG
    have n_A1 := Sd.mk (cls_blk A1.out hq)
    have n_A2 := Sd.mk (cls_blk A2.out hq)
    have n_HB := Sd.mk (bthen HB.out HB.out.size hq)
    have HG := Sd.mk hG
    clear A1 A2 HB hq hge hG HU0 HU1 HU2
    have A1 := n_A1
    have A2 := n_A2
    have HB := n_HB
    clear n_A1 n_A2 n_HB
    have hzB := zero_Block
    by_cases hm : mayBe b l i
    · obtain ⟨x3, x4, x5, x6, x7, x8, hy⟩ : ∃ y3 y4 y5 y6 y7 y8, layL b l i = [b, l, i, y3, y4, y5, y6, y7, y8] := ⟨_, _, _, _, _, _, rfl⟩
      have HO := fun W => Sd.mk (Of_yes b l i x3 x4 x5 x6 x7 x8 W hm hy)
      have HE := fun W => Sd.mk (Enc_yes b l i x3 x4 x5 x6 x7 x8 W hm hy)
      by_cases hbn : b ≤ n
      · by_cases hqe : eqB 1024 (encF [b, l, i, x3, x4, x5, x6, x7, x8]) f = true
        · have HR : Sd (R = .tuple #[.agg #[.int .i64 b, .int .i64 l, .int .i64 i, .int .i64 x3, .int .i64 x4, .int .i64 x5, .int .i64 x6, .int .i64 x7, .int .i64 x8], .int .i64 0]) := ⟨by rw [HR2.out (HGD.out.2 ⟨hm, hbn, by rw [hy]; exact hqe⟩), hy]; rfl⟩
          have HQE : Sd ((!eqB 1024 (encF [b, l, i, x3, x4, x5, x6, x7, x8]) f) = false) := ⟨by rw [hqe]; rfl⟩
          clear HR1 HR2 HGD hm hy hqe
          go_wp2_with (first | (((with_reducible refine gload 25 rfl ?_ ?_); exact rfl); refine ld_row 25 rfl rfl size_Geometry agg_Geometry rfl (by first | exact HG.out | exact blk_alloc HG.out | exact heap_alloc_new _ _) rfl ?_; simp only [Act.put, List.setIfInBounds_toArray, List.set_cons_zero, List.set_cons_succ]) | (go_at_call 13; refine (HO _).out.mono ?_; rintro e w2 ⟨rfl, hd⟩; have n_A1 := Sd.mk (bblk A1.out hd); have n_A2 := Sd.mk (bblk A2.out hd); have n_HG := Sd.mk (bblk HG.out hd); have n_HB := Sd.mk (bthen HB.out HB.out.size hd); clear A1 A2 HG HB hd; have A1 := n_A1; have A2 := n_A2; have HG := n_HG; have HB := n_HB; clear n_A1 n_A2 n_HG n_HB) | (((with_reducible refine gstore 27 rfl ?_ ?_); exact rfl); refine st_row 27 rfl rfl rfl size_Layout rfl rfl (heap_alloc_new _ _) rfl rfl (by kernel_rfl) ?_; intro w1_ hw1 hgr; have n_A1 := Sd.mk (pblk_new A1.out hgr); have n_A2 := Sd.mk (pblk_new A2.out hgr); have n_HG := Sd.mk (pblk_new HG.out hgr); have n_HB := Sd.mk (bgrow_new HB.out HB.out.size hgr); clear A1 A2 HG HB hgr; have A1 := n_A1; have A2 := n_A2; have HG := n_HG; have HB := n_HB; clear n_A1 n_A2 n_HG n_HB; have HX := Sd.mk hw1; clear hw1) | (((with_reducible refine gload 3 rfl ?_ ?_); exact rfl); refine ld_in 3 rfl rfl Try.underlying3 rfl (by first | exact HG.out | exact blk_alloc HG.out | exact heap_alloc_new _ _ | exact blk_alloc (heap_alloc_new _ _) | exact blk_alloc (blk_alloc HG.out) | exact blk_alloc (blk_alloc (heap_alloc_new _ _))) rfl ?_; simp only [Act.put, List.setIfInBounds_toArray, List.set_cons_zero, List.set_cons_succ]) | (((with_reducible refine gload 27 rfl ?_ ?_); exact rfl); refine ld_row 27 rfl rfl size_Layout agg_Layout rfl (by first | exact HX.out | exact blk_alloc HX.out | exact heap_alloc_new _ _) rfl ?_; simp only [Act.put, List.setIfInBounds_toArray, List.set_cons_zero, List.set_cons_succ]) | (go_at_call 14; refine (HE _).out.mono ?_; rintro e w2 ⟨rfl, hd⟩; have n_A1 := Sd.mk (bblk A1.out hd); have n_A2 := Sd.mk (bblk A2.out hd); have n_HX := Sd.mk (bblk HX.out hd); have n_HB := Sd.mk (bthen HB.out HB.out.size hd); clear A1 A2 HX HB hd; have A1 := n_A1; have A2 := n_A2; have HX := n_HX; have HB := n_HB; clear n_A1 n_A2 n_HX n_HB) | (((with_reducible refine gstore 23 rfl ?_ ?_); exact rfl); refine st_arr 23 rfl rfl rfl size_Block rfl rfl (heap_alloc_new _ _) ?_; intro w1_ hw1 hgr; have n_A1 := Sd.mk (pblk_new A1.out hgr); have n_A2 := Sd.mk (pblk_new A2.out hgr); have n_HX := Sd.mk (pblk_new HX.out hgr); have n_HB := Sd.mk (bgrow_new HB.out HB.out.size hgr); clear A1 A2 HX HB hgr; have A1 := n_A1; have A2 := n_A2; have HX := n_HX; have HB := n_HB; clear n_A1 n_A2 n_HX n_HB; have AE := Sd.mk hw1; clear hw1) | (((with_reducible refine gload 23 rfl ?_ ?_); exact rfl); refine ld_arr 23 rfl rfl size_Block agg_Block rfl AE.out ?_; simp only [Act.put, List.setIfInBounds_toArray, List.set_cons_zero, List.set_cons_succ]) | (((with_reducible refine gload 23 rfl ?_ ?_); exact rfl); refine ld_arr 23 rfl rfl size_Block agg_Block rfl A1.out ?_; simp only [Act.put, List.setIfInBounds_toArray, List.set_cons_zero, List.set_cons_succ]) | (((with_reducible refine gbin .neq 23 rfl ?_ ?_); exact rfl); refine neq_arr 23 rfl rfl flat_Block agg_Block eqg_Block rfl rfl ?_; simp only [Act.put, List.setIfInBounds_toArray, List.set_cons_zero, List.set_cons_succ]; rw [HQE.out]) | (((with_reducible refine gstore 27 rfl ?_ ?_); exact rfl); refine st_row 27 rfl rfl rfl size_Layout rfl rfl A2.out rfl rfl (by kernel_rfl) ?_; intro w1 hw1 hgr; have n_A2 := Sd.mk hw1; have n_HB := Sd.mk (bgrow HB.out HB.out.size hgr (by omega)); clear A2 HB hw1 hgr; have A2 := n_A2; have HB := n_HB; clear n_A2 n_HB))
          refine bodyPost_ret (res_ct rfl _ _ rfl A2.out agg_Layout size_Layout (by first | exact arrV_size _ _ _ | rfl)) rfl ?_
          exact ⟨by rw [HR.out]; rfl, HB.out⟩
        · have HR : Sd (R = badD) := ⟨HR1.out (fun h => hqe (by have := (HGD.out.1 h).2.2; rw [hy] at this; exact this))⟩
          have HQE : Sd ((!eqB 1024 (encF [b, l, i, x3, x4, x5, x6, x7, x8]) f) = true) := ⟨by simpa using hqe⟩
          clear HR1 HR2 HGD hm hy hqe
          go_wp2_with (first | (((with_reducible refine gload 25 rfl ?_ ?_); exact rfl); refine ld_row 25 rfl rfl size_Geometry agg_Geometry rfl (by first | exact HG.out | exact blk_alloc HG.out | exact heap_alloc_new _ _) rfl ?_; simp only [Act.put, List.setIfInBounds_toArray, List.set_cons_zero, List.set_cons_succ]) | (go_at_call 13; refine (HO _).out.mono ?_; rintro e w2 ⟨rfl, hd⟩; have n_A1 := Sd.mk (bblk A1.out hd); have n_A2 := Sd.mk (bblk A2.out hd); have n_HG := Sd.mk (bblk HG.out hd); have n_HB := Sd.mk (bthen HB.out HB.out.size hd); clear A1 A2 HG HB hd; have A1 := n_A1; have A2 := n_A2; have HG := n_HG; have HB := n_HB; clear n_A1 n_A2 n_HG n_HB) | (((with_reducible refine gstore 27 rfl ?_ ?_); exact rfl); refine st_row 27 rfl rfl rfl size_Layout rfl rfl (heap_alloc_new _ _) rfl rfl (by kernel_rfl) ?_; intro w1_ hw1 hgr; have n_A1 := Sd.mk (pblk_new A1.out hgr); have n_A2 := Sd.mk (pblk_new A2.out hgr); have n_HG := Sd.mk (pblk_new HG.out hgr); have n_HB := Sd.mk (bgrow_new HB.out HB.out.size hgr); clear A1 A2 HG HB hgr; have A1 := n_A1; have A2 := n_A2; have HG := n_HG; have HB := n_HB; clear n_A1 n_A2 n_HG n_HB; have HX := Sd.mk hw1; clear hw1) | (((with_reducible refine gload 3 rfl ?_ ?_); exact rfl); refine ld_in 3 rfl rfl Try.underlying3 rfl (by first | exact HG.out | exact blk_alloc HG.out | exact heap_alloc_new _ _ | exact blk_alloc (heap_alloc_new _ _) | exact blk_alloc (blk_alloc HG.out) | exact blk_alloc (blk_alloc (heap_alloc_new _ _))) rfl ?_; simp only [Act.put, List.setIfInBounds_toArray, List.set_cons_zero, List.set_cons_succ]) | (((with_reducible refine gload 27 rfl ?_ ?_); exact rfl); refine ld_row 27 rfl rfl size_Layout agg_Layout rfl (by first | exact HX.out | exact blk_alloc HX.out | exact heap_alloc_new _ _) rfl ?_; simp only [Act.put, List.setIfInBounds_toArray, List.set_cons_zero, List.set_cons_succ]) | (go_at_call 14; refine (HE _).out.mono ?_; rintro e w2 ⟨rfl, hd⟩; have n_A1 := Sd.mk (bblk A1.out hd); have n_A2 := Sd.mk (bblk A2.out hd); have n_HX := Sd.mk (bblk HX.out hd); have n_HB := Sd.mk (bthen HB.out HB.out.size hd); clear A1 A2 HX HB hd; have A1 := n_A1; have A2 := n_A2; have HX := n_HX; have HB := n_HB; clear n_A1 n_A2 n_HX n_HB) | (((with_reducible refine gstore 23 rfl ?_ ?_); exact rfl); refine st_arr 23 rfl rfl rfl size_Block rfl rfl (heap_alloc_new _ _) ?_; intro w1_ hw1 hgr; have n_A1 := Sd.mk (pblk_new A1.out hgr); have n_A2 := Sd.mk (pblk_new A2.out hgr); have n_HX := Sd.mk (pblk_new HX.out hgr); have n_HB := Sd.mk (bgrow_new HB.out HB.out.size hgr); clear A1 A2 HX HB hgr; have A1 := n_A1; have A2 := n_A2; have HX := n_HX; have HB := n_HB; clear n_A1 n_A2 n_HX n_HB; have AE := Sd.mk hw1; clear hw1) | (((with_reducible refine gload 23 rfl ?_ ?_); exact rfl); refine ld_arr 23 rfl rfl size_Block agg_Block rfl AE.out ?_; simp only [Act.put, List.setIfInBounds_toArray, List.set_cons_zero, List.set_cons_succ]) | (((with_reducible refine gload 23 rfl ?_ ?_); exact rfl); refine ld_arr 23 rfl rfl size_Block agg_Block rfl A1.out ?_; simp only [Act.put, List.setIfInBounds_toArray, List.set_cons_zero, List.set_cons_succ]) | (((with_reducible refine gbin .neq 23 rfl ?_ ?_); exact rfl); refine neq_arr 23 rfl rfl flat_Block agg_Block eqg_Block rfl rfl ?_; simp only [Act.put, List.setIfInBounds_toArray, List.set_cons_zero, List.set_cons_succ]; rw [HQE.out]) | (((with_reducible refine gstore 27 rfl ?_ ?_); exact rfl); refine st_row 27 rfl rfl rfl size_Layout rfl rfl A2.out rfl rfl (by kernel_rfl) ?_; intro w1 hw1 hgr; have n_A2 := Sd.mk hw1; have n_HB := Sd.mk (bgrow HB.out HB.out.size hgr (by omega)); clear A2 HB hw1 hgr; have A2 := n_A2; have HB := n_HB; clear n_A2 n_HB))
          refine bodyPost_ret (res_ct rfl _ _ rfl A2.out agg_Layout size_Layout (by first | exact arrV_size _ _ _ | rfl)) rfl ?_
          exact ⟨by rw [HR.out]; rfl, HB.out⟩
      · have HR : Sd (R = badD) := ⟨HR1.out (fun h => hbn (HGD.out.1 h).2.1)⟩
        have HQE : Sd ((!eqB 1024 (encF [b, l, i, x3, x4, x5, x6, x7, x8]) f) = (!eqB 1024 (encF [b, l, i, x3, x4, x5, x6, x7, x8]) f)) := ⟨rfl⟩
        clear HR1 HR2 HGD hm hy
        go_wp2_with (first | (((with_reducible refine gload 25 rfl ?_ ?_); exact rfl); refine ld_row 25 rfl rfl size_Geometry agg_Geometry rfl (by first | exact HG.out | exact blk_alloc HG.out | exact heap_alloc_new _ _) rfl ?_; simp only [Act.put, List.setIfInBounds_toArray, List.set_cons_zero, List.set_cons_succ]) | (go_at_call 13; refine (HO _).out.mono ?_; rintro e w2 ⟨rfl, hd⟩; have n_A1 := Sd.mk (bblk A1.out hd); have n_A2 := Sd.mk (bblk A2.out hd); have n_HG := Sd.mk (bblk HG.out hd); have n_HB := Sd.mk (bthen HB.out HB.out.size hd); clear A1 A2 HG HB hd; have A1 := n_A1; have A2 := n_A2; have HG := n_HG; have HB := n_HB; clear n_A1 n_A2 n_HG n_HB) | (((with_reducible refine gstore 27 rfl ?_ ?_); exact rfl); refine st_row 27 rfl rfl rfl size_Layout rfl rfl (heap_alloc_new _ _) rfl rfl (by kernel_rfl) ?_; intro w1_ hw1 hgr; have n_A1 := Sd.mk (pblk_new A1.out hgr); have n_A2 := Sd.mk (pblk_new A2.out hgr); have n_HG := Sd.mk (pblk_new HG.out hgr); have n_HB := Sd.mk (bgrow_new HB.out HB.out.size hgr); clear A1 A2 HG HB hgr; have A1 := n_A1; have A2 := n_A2; have HG := n_HG; have HB := n_HB; clear n_A1 n_A2 n_HG n_HB; have HX := Sd.mk hw1; clear hw1) | (((with_reducible refine gload 3 rfl ?_ ?_); exact rfl); refine ld_in 3 rfl rfl Try.underlying3 rfl (by first | exact HG.out | exact blk_alloc HG.out | exact heap_alloc_new _ _ | exact blk_alloc (heap_alloc_new _ _) | exact blk_alloc (blk_alloc HG.out) | exact blk_alloc (blk_alloc (heap_alloc_new _ _))) rfl ?_; simp only [Act.put, List.setIfInBounds_toArray, List.set_cons_zero, List.set_cons_succ]) | (((with_reducible refine gload 27 rfl ?_ ?_); exact rfl); refine ld_row 27 rfl rfl size_Layout agg_Layout rfl (by first | exact HX.out | exact blk_alloc HX.out | exact heap_alloc_new _ _) rfl ?_; simp only [Act.put, List.setIfInBounds_toArray, List.set_cons_zero, List.set_cons_succ]) | (go_at_call 14; refine (HE _).out.mono ?_; rintro e w2 ⟨rfl, hd⟩; have n_A1 := Sd.mk (bblk A1.out hd); have n_A2 := Sd.mk (bblk A2.out hd); have n_HX := Sd.mk (bblk HX.out hd); have n_HB := Sd.mk (bthen HB.out HB.out.size hd); clear A1 A2 HX HB hd; have A1 := n_A1; have A2 := n_A2; have HX := n_HX; have HB := n_HB; clear n_A1 n_A2 n_HX n_HB) | (((with_reducible refine gstore 23 rfl ?_ ?_); exact rfl); refine st_arr 23 rfl rfl rfl size_Block rfl rfl (heap_alloc_new _ _) ?_; intro w1_ hw1 hgr; have n_A1 := Sd.mk (pblk_new A1.out hgr); have n_A2 := Sd.mk (pblk_new A2.out hgr); have n_HX := Sd.mk (pblk_new HX.out hgr); have n_HB := Sd.mk (bgrow_new HB.out HB.out.size hgr); clear A1 A2 HX HB hgr; have A1 := n_A1; have A2 := n_A2; have HX := n_HX; have HB := n_HB; clear n_A1 n_A2 n_HX n_HB; have AE := Sd.mk hw1; clear hw1) | (((with_reducible refine gload 23 rfl ?_ ?_); exact rfl); refine ld_arr 23 rfl rfl size_Block agg_Block rfl AE.out ?_; simp only [Act.put, List.setIfInBounds_toArray, List.set_cons_zero, List.set_cons_succ]) | (((with_reducible refine gload 23 rfl ?_ ?_); exact rfl); refine ld_arr 23 rfl rfl size_Block agg_Block rfl A1.out ?_; simp only [Act.put, List.setIfInBounds_toArray, List.set_cons_zero, List.set_cons_succ]) | (((with_reducible refine gbin .neq 23 rfl ?_ ?_); exact rfl); refine neq_arr 23 rfl rfl flat_Block agg_Block eqg_Block rfl rfl ?_; simp only [Act.put, List.setIfInBounds_toArray, List.set_cons_zero, List.set_cons_succ]; rw [HQE.out]) | (((with_reducible refine gstore 27 rfl ?_ ?_); exact rfl); refine st_row 27 rfl rfl rfl size_Layout rfl rfl A2.out rfl rfl (by kernel_rfl) ?_; intro w1 hw1 hgr; have n_A2 := Sd.mk hw1; have n_HB := Sd.mk (bgrow HB.out HB.out.size hgr (by omega)); clear A2 HB hw1 hgr; have A2 := n_A2; have HB := n_HB; clear n_A2 n_HB))
        refine bodyPost_ret (res_ct rfl _ _ rfl A2.out agg_Layout size_Layout (by first | exact arrV_size _ _ _ | rfl)) rfl ?_
        exact ⟨by rw [HR.out]; rfl, HB.out⟩
    · have HR : Sd (R = badD) := ⟨HR1.out (fun h => hm (HGD.out.1 h).1)⟩
      have HO := fun W => Sd.mk (Of_no b l i W hm)
      clear HR1 HR2 HGD hm
      go_wp2_with (first | (((with_reducible refine gload 25 rfl ?_ ?_); exact rfl); refine ld_row 25 rfl rfl size_Geometry agg_Geometry rfl (by first | exact HG.out | exact blk_alloc HG.out | exact heap_alloc_new _ _) rfl ?_; simp only [Act.put, List.setIfInBounds_toArray, List.set_cons_zero, List.set_cons_succ]) | (go_at_call 13; refine (HO _).out.mono ?_; rintro e w2 ⟨rfl, hd⟩; have n_A1 := Sd.mk (bblk A1.out hd); have n_A2 := Sd.mk (bblk A2.out hd); have n_HG := Sd.mk (bblk HG.out hd); have n_HB := Sd.mk (bthen HB.out HB.out.size hd); clear A1 A2 HG HB hd; have A1 := n_A1; have A2 := n_A2; have HG := n_HG; have HB := n_HB; clear n_A1 n_A2 n_HG n_HB) | (((with_reducible refine gstore 27 rfl ?_ ?_); exact rfl); refine st_row 27 rfl rfl rfl size_Layout rfl rfl (heap_alloc_new _ _) rfl rfl (by kernel_rfl) ?_; intro w1_ hw1 hgr; have n_A1 := Sd.mk (pblk_new A1.out hgr); have n_A2 := Sd.mk (pblk_new A2.out hgr); have n_HG := Sd.mk (pblk_new HG.out hgr); have n_HB := Sd.mk (bgrow_new HB.out HB.out.size hgr); clear A1 A2 HG HB hgr; have A1 := n_A1; have A2 := n_A2; have HG := n_HG; have HB := n_HB; clear n_A1 n_A2 n_HG n_HB; have HX := Sd.mk hw1; clear hw1) | (((with_reducible refine gload 3 rfl ?_ ?_); exact rfl); refine ld_in 3 rfl rfl Try.underlying3 rfl (by first | exact HG.out | exact blk_alloc HG.out | exact heap_alloc_new _ _ | exact blk_alloc (heap_alloc_new _ _) | exact blk_alloc (blk_alloc HG.out) | exact blk_alloc (blk_alloc (heap_alloc_new _ _))) rfl ?_; simp only [Act.put, List.setIfInBounds_toArray, List.set_cons_zero, List.set_cons_succ]) | (((with_reducible refine gstore 27 rfl ?_ ?_); exact rfl); refine st_row 27 rfl rfl rfl size_Layout rfl rfl A2.out rfl rfl (by kernel_rfl) ?_; intro w1 hw1 hgr; have n_A2 := Sd.mk hw1; have n_HB := Sd.mk (bgrow HB.out HB.out.size hgr (by omega)); clear A2 HB hw1 hgr; have A2 := n_A2; have HB := n_HB; clear n_A2 n_HB))
      refine bodyPost_ret (res_ct rfl _ _ rfl A2.out agg_Layout size_Layout (by first | exact arrV_size _ _ _ | rfl)) rfl ?_
      exact ⟨by rw [HR.out]; rfl, HB.out⟩
end Go.Proofs.Ytiafeogjknilmaa.B
