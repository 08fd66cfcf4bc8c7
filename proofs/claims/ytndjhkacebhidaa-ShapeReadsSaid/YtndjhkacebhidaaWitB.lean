/- For the rows: a block of noughts is a value that may be handed in. -/
import Derived.Test.YtndjhkacebhidaaProg
import Derived.SizedLaws
import Derived.WideWitness
import Derived.KernelRfl
namespace Go.Proofs.Ytndjhkacebhidaa.B
abbrev zBlock : Value := .agg (List.replicate 1024 (Value.int .u8 0)).toArray
theorem flat_rep {α : Type} (n : Nat) (a : α) : (List.replicate n [a]).flatten = List.replicate n a := by
  induction n with
  | zero => rfl
  | succ n ih => rw [List.replicate_succ, List.flatten_cons, ih]; rfl
theorem rep_get {α : Type} (n i : Nat) (a : α) (h : i < n) : (List.replicate n a)[i]? = some a := by rw [List.getElem?_replicate, if_pos h]
theorem types_Block : Try.prog.cellTypes Try.prog.depth 23 = some (List.replicate 1024 5) := by
  have hd : ∃ d, Try.prog.depth = d + 2 := ⟨Try.prog.depth - 2, by unfold Program.depth; omega⟩
  obtain ⟨d, hd⟩ := hd
  rw [hd]
  unfold Program.cellTypes
  rw [Try.underlying23]
  have h2 : Try.prog.cellTypes (d + 1) 5 = some [5] := by
    unfold Program.cellTypes
    rw [Try.underlying5]
  simp only [h2, Option.map_some, flat_rep]
theorem cellsB : Try.prog.cellsOf 23 = 1024 := by kernel_rfl
theorem okw_u8 (W : World) : Cell.okWideB Try.prog W 5 (.int .u8 0) = true := by kernel_rfl
theorem okw_Block (W : World) : Value.okWideB Try.prog W 23 zBlock = true := by
  unfold Value.okWideB
  rw [Try.underlying23]
  simp only [cellsB, Cell.okWideRowB, types_Block, List.size_toArray, List.length_replicate, beq_self_eq_true, Bool.true_and, List.all_eq_true, List.mem_range]
  intro i hi
  rw [List.getElem?_toArray, rep_get _ i _ hi, rep_get _ (i % 1024) _ (by omega)]
  exact okw_u8 W
theorem okIn {P : Program} {W : World} {f : FuncId} {fn : Func} {args : Array Value} (hf : P.funcs[f]? = some fn) (hi : (P.inits.idxOf? f).isNone = true) (hb : (fn.body.isSome && !fn.ours && fn.nfree == 0) = true) (hn : args.size = fn.params.size)
    (h : ∀ (j : Nat) t v, fn.params[j]? = some t → args[j]? = some v → Value.okWideB P W t v = true) : Input.okWideB P W f ⟨#[], args, []⟩ = true := by
  unfold Input.okWideB
  simp only [Bool.and_eq_true, beq_iff_eq] at hb
  simp only [hf, hi, hb.1.1, hb.1.2, hb.2, hn, List.isEmpty_nil, Bool.true_and, Bool.and_true, beq_self_eq_true, List.all_eq_true, List.mem_range, List.all_nil]
  intro j hj
  have h1 : fn.params[j]? = some fn.params[j] := Array.getElem?_eq_getElem hj
  have h2 : args[j]? = some (args[j]'(by omega)) := Array.getElem?_eq_getElem (by omega)
  rw [h1, h2]
  exact h j _ _ h1 h2
end Go.Proofs.Ytndjhkacebhidaa.B
