/- A plain reading of the model's code: some lists built into one. -/
import Derived.Test.YtgbdjeofbeibiaaPeP
set_option linter.unusedVariables false
namespace Go.Proofs.Ytgbdjeofbeibiaa.Pe
section
variable {T : Tys} {call : CallF} {op : Op} {tm : List V} {H N L : Heap} {t t2 e : TypeId} {px py : Operand} {x y z : C} {sz bb n n0 m : Nat} {cs new : List C} {a1 a2 : Nat} {a3 : List C} {a4 : List PK} {kd : TK} {zz : List C} {ks : List PK}
/-- Some elements, as a list. -/
theorem o_bslN {n q sz2 bb2 : Nat} {ps : Array (Nat × Operand)} {vs : List (Nat × V)} {N' : Heap} (ho : op = .buildSlice t n ps) (hp : parts tm ps.toList = some vs) (ht : tyAt T t = some ⟨.sl e, a1, a2, a3, a4⟩) (he : tyAt T e = some ⟨kd, sz2, bb2, zz, ks⟩) (hc : (Nat.ble 1 n && Nat.ble 1 sz2 && Nat.ble (n * sz2) 16777216) = true) (hf : fillC (fun i => some (i * sz2, sz2)) (n * sz2) vs (many n zz) = some cs) (hn : N.length = q := by first | (simp only [List.length_nil]; rfl) | (simp only [List.length_cons, List.length_nil, Nat.reduceAdd]; rfl) | rfl) (hl : appL N [.row true cs n n sz2 e] = N' := by first | (simp only [app_nil]; rfl) | (simp only [appL_nil]; rfl) | (simp only [appL_nil, appL_cons]; rfl) | rfl) : evOp T call op tm (appL H N) = some (.c (.sl (H.length + q) 0 n n), appL H N') := by
  subst ho; subst hn; subst hl
  show (match parts tm ps.toList with
    | some vs => vbuildSlice T (appL H N) t n vs
    | none => none) = _
  rw [hp]
  show vbuildSlice T (appL H N) t n vs = _
  unfold vbuildSlice
  simp only [ht, he, hc, cond_true, hf, len_app rfl, app_app rfl]
end
/-- Three lists, no two of which share a block. -/
theorem Fam.three {H N : Heap} {sz n0 n1 n2 : Nat} {e : TypeId} {x0 x1 x2 : C} {c0 c1 c2 : List C} (h0 : OwnR H N x0 sz e n0 c0) (h1 : OwnR H N x1 sz e n1 c1) (h2 : OwnR H N x2 sz e n2 c2) (a01 : ∀ q u g u' g', x0 = .sl q 0 u g → x1 ≠ .sl q 0 u' g') (a02 : ∀ q u g u' g', x0 = .sl q 0 u g → x2 ≠ .sl q 0 u' g') (a12 : ∀ q u g u' g', x1 = .sl q 0 u g → x2 ≠ .sl q 0 u' g') : Fam H N sz e 3 (fun j => [x0, x1, x2].getD j .ns) (fun j => [n0, n1, n2].getD j 0) (fun j => [x0, x1, x2].getD j .ns) (fun j => [n0, n1, n2].getD j 0) (fun j => [c0, c1, c2].getD j []) := by
  refine ⟨fun j hj => ?_, fun i j hi hj hij q u g h u' g' h' => ?_⟩
  · match j, hj with
    | 0, _ => exact OwnP.of h0
    | 1, _ => exact OwnP.of h1
    | 2, _ => exact OwnP.of h2
  · have ei : i = 0 ∨ i = 1 ∨ i = 2 := by omega
    have ej : j = 0 ∨ j = 1 ∨ j = 2 := by omega
    rcases ei with rfl | rfl | rfl <;> rcases ej with rfl | rfl | rfl <;> first | exact absurd rfl hij | exact a01 _ _ _ _ _ h h' | exact a02 _ _ _ _ _ h h' | exact a12 _ _ _ _ _ h h' | exact a01 _ _ _ _ _ h' h | exact a02 _ _ _ _ _ h' h | exact a12 _ _ _ _ _ h' h
theorem Fam.two {H N : Heap} {sz n0 n1 : Nat} {e : TypeId} {x0 x1 : C} {c0 c1 : List C} (h0 : OwnR H N x0 sz e n0 c0) (h1 : OwnR H N x1 sz e n1 c1) (a01 : ∀ q u g u' g', x0 = .sl q 0 u g → x1 ≠ .sl q 0 u' g') : Fam H N sz e 2 (fun j => [x0, x1].getD j .ns) (fun j => [n0, n1].getD j 0) (fun j => [x0, x1].getD j .ns) (fun j => [n0, n1].getD j 0) (fun j => [c0, c1].getD j []) := by
  refine ⟨fun j hj => ?_, fun i j hi hj hij q u g h u' g' h' => ?_⟩
  · match j, hj with
    | 0, _ => exact OwnP.of h0
    | 1, _ => exact OwnP.of h1
  · have ei : i = 0 ∨ i = 1 := by omega
    have ej : j = 0 ∨ j = 1 := by omega
    rcases ei with rfl | rfl <;> rcases ej with rfl | rfl <;> first | exact absurd rfl hij | exact a01 _ _ _ _ _ h h' | exact a01 _ _ _ _ _ h' h
end Go.Proofs.Ytgbdjeofbeibiaa.Pe
