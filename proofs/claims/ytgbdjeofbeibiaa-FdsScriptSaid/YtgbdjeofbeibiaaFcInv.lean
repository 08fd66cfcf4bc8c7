/- FdsScript: what holds between two calls. -/
import Derived.Test.YtgbdjeofbeibiaaFcSt
import Derived.Test.YtgbdjeofbeibiaaPeMixS
set_option linter.unusedVariables false
namespace Go.Proofs.Ytgbdjeofbeibiaa.Pe
set_option maxRecDepth 10000
set_option maxHeartbeats 4000000
abbrev Act := Int × Int × Int × Int
def actC (x : Act) : List C := [.i .i64 x.1, .i .i64 x.2.1, .i .i64 x.2.2.1, .i .i64 x.2.2.2]
def kc (FI FS : List Wlk) : Nat → List C
  | 0 => FI.map fun w => C.fv 39 w.id
  | 1 => FI.map (·.x)
  | 2 => FI.map (·.y)
  | 3 => FS.map fun w => C.fv 42 w.id
  | 4 => FS.map (·.x)
  | 5 => FS.map (·.y)
  | _ => []
structure Iv (H N : Heap) (mA mB : Int) (A B : List Ce) (ya yb : C) (P R : C × C) (kk : Nat → C) (F FI FS : List Wlk) (n : Nat) : Prop where
  st : Stt H N ⟨mA, cnt A, ya, cL fI A⟩ ⟨mB, cnt B, yb, cL fS B⟩ ⟨mA, P.1, P.2, ents A⟩ ⟨mB, R.1, R.2, ents B⟩ ⟨kk, kc FI FS⟩ F
  loA : ∀ p ∈ A, lo64 p.2
  loB : ∀ p ∈ B, lo64 p.2
  fi : ∀ w ∈ FI, w ∈ F ∧ w.V = VI
  fs : ∀ w ∈ FS, w ∈ F ∧ w.V = VS
  nA : A.length ≤ n
  nB : B.length ≤ n
  nI : FI.length ≤ n
  nS : FS.length ≤ n
/-- .. whatever they are. -/
def Iw (H N : Heap) (mA mB : Int) (n : Nat) : Prop := ∃ A B ya yb P R kk F FI FS, Iv H N mA mB A B ya yb P R kk F FI FS n
section
variable {H N L : Heap} {mA mB : Int} {A B : List Ce} {ya yb : C} {P R : C × C} {kk : Nat → C} {F FI FS : List Wlk} {n m : Nat}
theorem Iv.app (v : Iv H N mA mB A B ya yb P R kk F FI FS n) : Iv H (appL N L) mA mB A B ya yb P R kk F FI FS n := ⟨v.st.app, v.loA, v.loB, v.fi, v.fs, v.nA, v.nB, v.nI, v.nS⟩
theorem Iv.more (v : Iv H N mA mB A B ya yb P R kk F FI FS n) (h : n ≤ m) : Iv H N mA mB A B ya yb P R kk F FI FS m := ⟨v.st, v.loA, v.loB, v.fi, v.fs, by have := v.nA; omega, by have := v.nB; omega, by have := v.nI; omega, by have := v.nS; omega⟩
theorem Iv.iw (v : Iv H N mA mB A B ya yb P R kk F FI FS n) : Iw H N mA mB n := ⟨A, B, ya, yb, P, R, kk, F, FI, FS, v⟩
/-- A variable that is none of the objects' blocks. -/
theorem KeepU.var {N N' : Heap} {tq q m : Nat} {y y' : C} {e : TypeId} {mm h : Int} {cs : List (Bool × C)} {c1 : List C} {wr : Bool} (t : Tb e H N tq mm h y cs) (k : KeepU H N N' tq y y') (hq : getL N q = some (.var wr m c1)) (hne : q ≠ tq) : getL N' q = some (.var wr m c1) := (k q _ hq hne (t.own.notVar hq)).1
theorem KeepR.var {N N' : Heap} {tq q m : Nat} {x y x' y' : C} {mm : Int} {E : List En} {c1 : List C} {wr : Bool} (t : Rf H N tq mm x y E) (k : KeepR H N N' tq x y x' y') (hq : getL N q = some (.var wr m c1)) (hne : q ≠ tq) : getL N' q = some (.var wr m c1) := (k q _ hq hne (t.ox.notVar hq) (t.oy.notVar hq)).1
end
theorem lt_of_getL {N : Heap} {q : Nat} {b : Bk} (h : getL N q = some b) : q < N.length := by
  rw [getL_eq] at h
  exact (List.getElem?_eq_some_iff.1 h).1
/-- What a call of one of the tables leaves. -/
def Post (H : Heap) (mA mB : Int) (n : Nat) : V → Heap → Prop := fun u H' => u = .c (.b true) ∧ ∃ N', H' = appL H N' ∧ Iw H N' mA mB n
end Go.Proofs.Ytgbdjeofbeibiaa.Pe
