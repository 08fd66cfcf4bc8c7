/- A plain reading of the model's code: a store in a region that draws its order. -/
import Derived.Test.YtcgmblcpeinpjaaPeG
set_option linter.unusedVariables false
namespace Go.Proofs.Ytcgmblcpeinpjaa.Pe
/-- A store, in a region that draws its order, into the whole of a block that the region made. -/
theorem pA_stD {T : Tys} {call : CallF} {ops l : List Oper} {H0 : Heap} {cls : List Nat} {i : Nat} {tm tm' : List V} {own : List Nat} {upd upd' : List (Option Nat)} {N N' : Heap} {Q : Rg → Prop} {o : Oper} {t : TypeId} {a x : Operand} {v : V} {n m id j kk : Nat} {ys cs : List C} {ti : TI}
    (hop : o.op = .store t a x) (hw : wantedE ops o tm = some true) (ha : opnd tm a = some (.c (.p id 0))) (hx : opnd tm x = some v) (ht : tyAt T t = some ti) (hc : v.cells = some (n, ys)) (hn : Nat.beq n ti.size = true) (hid : id = H0.length + j) (hN : getL N j = some (.var true m cs)) (hm : Nat.beq n m = true) (hk : getL own j = some kk) (hu : getL upd j = some none) (hb : (bit (clAt cls i) kk && (List.range i).all (fun j => !bit (clAt cls j) kk || bit (clAt cls i) j)) = true) (hN' : setL N (.var true m ys) j = some N') (hu' : setL upd (some i) j = some upd') (hp : putT tm o.dst (.c .un) = some tm')
    (k : pA T call ops H0 cls l (i + 1) ⟨tm', own, upd', N'⟩ Q) : pA T call ops H0 cls (o :: l) i ⟨tm, own, upd, N⟩ Q := by
  obtain ⟨r, e, q⟩ := k
  refine ⟨r, ?_, q⟩
  have hj : id - H0.length = j := by omega
  have hle : Nat.ble H0.length id = true := by rw [Nat.ble_eq]; omega
  have hs : splice m cs 0 n ys = some ys := by
    unfold splice
    rw [hm]; rfl
  have hl : evLocal T ops H0 cls i o t a x ⟨tm, own, upd, N⟩ = some ⟨tm', own, upd', N'⟩ := by
    unfold evLocal
    simp only [hw, ha, hx, ht, hc, hn, hle, hj, hN, hk, hu, hb, hs, hN', hu', hp, Bool.and_self, cond_true]
  obtain ⟨dst, op, ty, po, af, gd⟩ := o
  subst hop
  show (match evLocal T ops H0 cls i _ t a x ⟨tm, own, upd, N⟩ with
    | some r' => evAny T call ops H0 cls l (i + 1) r'
    | none => none) = some r
  rw [hl]
  exact e
end Go.Proofs.Ytcgmblcpeinpjaa.Pe
