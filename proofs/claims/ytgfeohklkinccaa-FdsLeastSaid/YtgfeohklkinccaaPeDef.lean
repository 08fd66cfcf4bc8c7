/- A plain reading of the model's code: values without addresses, memory as a list of blocks. Definitions alone. -/
import Derived.Calls
namespace Go.Proofs.Ytgfeohklkinccaa.Pe
/-- A cell. -/
inductive C where
  | un
  | i (k : IntKind) (n : Int)
  | b (x : Bool)
  | s (l : List UInt8)
  | np
  | p (id off : Nat)
  | q (id off gen : Nat)
  | ns
  | sl (id off len gen : Nat)
  | va (id off len cap : Nat)
  | vr (id off len cap gen : Nat)
  | nm
  | m (id : Nat)
  | nf
  | fv (f id : Nat)
  deriving DecidableEq, Inhabited
inductive V1 where
  | c (x : C)
  | ag (n : Nat) (xs : List C)
inductive V where
  | c (x : C)
  | ag (n : Nat) (xs : List C)
  | t (xs : List V1)
def V1.toV : V1 → V
  | .c x => .c x
  | .ag n xs => .ag n xs
def V.to1 : V → Option V1
  | .c x => some (.c x)
  | .ag n xs => some (.ag n xs)
  | .t _ => none
/-- The cells of a value that may be stored, and how many. -/
def V.cells : V → Option (Nat × List C)
  | .c .un => none
  | .c x => some (1, [x])
  | .ag n xs => some (n, xs)
  | .t _ => none
/-! lists, so that the kernel reckons with them at small cost -/
noncomputable def getL {α : Type} (l : List α) : Nat → Option α :=
  List.rec (motive := fun _ => Nat → Option α) (fun _ => none) (fun x _ ih n => Nat.rec (motive := fun _ => Option α) (some x) (fun m _ => ih m) n) l
noncomputable def consO {α : Type} (x : α) (o : Option (List α)) : Option (List α) := Option.rec (motive := fun _ => Option (List α)) none (fun l' => some (x :: l')) o
/-- One place turned; none: there is no such place. -/
noncomputable def setL {α : Type} (l : List α) (v : α) : Nat → Option (List α) :=
  List.rec (motive := fun _ => Nat → Option (List α)) (fun _ => none)
    (fun x xs ih n => Nat.rec (motive := fun _ => Option (List α)) (some (v :: xs)) (fun m _ => consO x (ih m)) n) l
noncomputable def dropL {α : Type} (l : List α) : Nat → List α :=
  List.rec (motive := fun _ => Nat → List α) (fun _ => []) (fun x xs ih n => Nat.rec (motive := fun _ => List α) (x :: xs) (fun m _ => ih m) n) l
/-- The first n; none: there are not so many. -/
noncomputable def takeL {α : Type} (l : List α) : Nat → Option (List α) :=
  List.rec (motive := fun _ => Nat → Option (List α)) (fun n => Nat.rec (motive := fun _ => Option (List α)) (some []) (fun _ _ => none) n)
    (fun x _ ih n => Nat.rec (motive := fun _ => Option (List α)) (some []) (fun m _ => consO x (ih m)) n) l
noncomputable def overL {α : Type} (ys : List α) : List α → Option (List α) :=
  List.rec (motive := fun _ => List α → Option (List α)) (fun xs => some xs)
    (fun y _ ih xs => List.rec (motive := fun _ => Option (List α)) none (fun _ xs' _ => consO y (ih xs')) xs) ys
/-- A stretch written over; none: it does not fit. -/
noncomputable def spliceL {α : Type} (ys : List α) (xs : List α) : Nat → Option (List α) :=
  List.rec (motive := fun _ => Nat → Option (List α)) (fun n => Nat.rec (motive := fun _ => Option (List α)) (overL ys []) (fun _ _ => none) n)
    (fun x xs ih n => Nat.rec (motive := fun _ => Option (List α)) (overL ys (x :: xs)) (fun m _ => consO x (ih m)) n) xs
noncomputable def appL {α : Type} (xs ys : List α) : List α := List.rec (motive := fun _ => List α) ys (fun x _ ih => x :: ih) xs
/-! numbers written out -/
noncomputable def forceN {α : Type} (n : Nat) (f : Nat → α) : α := Nat.rec (motive := fun _ => α) (f 0) (fun m _ => f (Nat.succ m)) n
noncomputable def forceI {α : Type} (n : Int) (f : Int → α) : α := Int.rec (motive := fun _ => α) (fun m => forceN m fun m => f (.ofNat m)) (fun m => forceN m fun m => f (.negSucc m)) n
noncomputable def forceC {α : Type} (x : C) (f : C → α) : α := match x with
  | .i k n => forceI n fun n => f (.i k n)
  | .b x => Bool.rec (motive := fun _ => α) (f (.b false)) (f (.b true)) x
  | .p id off => forceN id fun id => forceN off fun off => f (.p id off)
  | .q id off g => forceN id fun id => forceN off fun off => forceN g fun g => f (.q id off g)
  | .sl id off l g => forceN id fun id => forceN off fun off => forceN l fun l => forceN g fun g => f (.sl id off l g)
  | .va id off l g => forceN id fun id => forceN off fun off => forceN l fun l => forceN g fun g => f (.va id off l g)
  | .vr id off l c g => forceN id fun id => forceN off fun off => forceN l fun l => forceN c fun c => forceN g fun g => f (.vr id off l c g)
  | .fv g id => forceN id fun id => f (.fv g id)
  | x => f x
noncomputable def forceV {α : Type} (x : V) (f : V → α) : α := match x with
  | .c x => forceC x fun x => f (.c x)
  | .ag n xs => f (.ag n xs)
  | .t xs => f (.t xs)
def maxN : IntKind → Nat
  | .i8 => 127
  | .i16 => 32767
  | .i32 => 2147483647
  | .i64 => 9223372036854775807
  | .u8 => 255
  | .u16 => 65535
  | .u32 => 4294967295
  | .u64 => 18446744073709551615
def wrapQ (k : IntKind) (n : Int) : Int := match n with
  | .ofNat m => bif Nat.ble m (maxN k) then .ofNat m else k.wrap (.ofNat m)
  | .negSucc m => bif k.signed && Nat.ble m (maxN k) then .negSucc m else k.wrap (.negSucc m)
def leI (a b : Int) : Bool := match a, b with
  | .ofNat a, .ofNat b => Nat.ble a b
  | .ofNat _, .negSucc _ => false
  | .negSucc _, .ofNat _ => true
  | .negSucc a, .negSucc b => Nat.ble b a
def eqI (a b : Int) : Bool := match a, b with
  | .ofNat a, .ofNat b => Nat.beq a b
  | .negSucc a, .negSucc b => Nat.beq a b
  | _, _ => false
/-- Is an index inside? -/
def inN (j : Int) (n : Nat) : Bool := match j with
  | .ofNat m => Nat.ble (m + 1) n
  | .negSucc _ => false
/-- A block: of a variable, of a row that may grow, of a row that is only read, a set of ints. -/
inductive Bk where
  | dead (gb : Nat)
  | var (wr : Bool) (n : Nat) (cells : List C)
  | row (wr : Bool) (cells : List C) (n lo sz : Nat) (e : TypeId)
  | ror (cells : List C) (n sz : Nat)
  | mp (wr : Bool) (keys : List (IntKind × Int))
def Bk.gb : Bk → Nat
  | .dead g => g
  | .var _ _ _ => 1
  | .row _ _ n _ _ _ => n + 1
  | .ror _ n _ => n + 1
  | .mp _ _ => 1
def Bk.wr : Bk → Bool
  | .var w _ _ => w
  | .row w _ _ _ _ _ => w
  | .mp w _ => w
  | _ => false
def Bk.frz : Bk → Bk
  | .var _ n c => .var false n c
  | .row _ c n lo sz e => .row false c n lo sz e
  | .mp _ k => .mp false k
  | b => b
abbrev Heap := List Bk
def freeze (H : Heap) : Heap := H.map Bk.frz
/-- What is known of types. -/
inductive TK where
  | int (k : IntKind)
  | bool
  | str
  | ptr
  | sl (e : TypeId)
  | arr (n : Nat) (e : TypeId)
  | st (fs : List (Nat × TypeId))
  | mp (k e : TypeId)
  | oth
  deriving DecidableEq
inductive PK where
  | int (k : IntKind)
  | bool
  | str
  | oth
  deriving DecidableEq
structure TI where
  kd : TK
  size : Nat
  bytes : Nat
  zero : List C
  /-- the kinds of all cells, if '==' is cell by cell -/
  ks : List PK := []
def TI.agg (x : TI) : Bool := match x.kd with
  | .arr _ _ | .st _ => true
  | _ => false
abbrev Tys := List (TypeId × TI)
noncomputable def look {α : Type} (T : List (Nat × α)) (t : Nat) : Option α :=
  List.rec (motive := fun _ => Option α) none (fun x _ ih => bif Nat.beq x.1 t then some x.2 else ih) T
noncomputable abbrev tyAt (T : Tys) (t : TypeId) : Option TI := look T t
abbrev Fns := List (FuncId × Func)
noncomputable abbrev fnAt (F : Fns) (f : FuncId) : Option Func := look F f
/-! constants -/
def cellOf : Value → Option C
  | .int k n => some (.i k n)
  | .bool x => some (.b x)
  | .string s => some (.s s.data.toList)
  | .pointer none => some .np
  | .slice none 0 0 => some .ns
  | .map none => some .nm
  | .nilFunc => some .nf
  | _ => none
def cellsOf : List Value → Option (List C)
  | [] => some []
  | v :: vs => match cellOf v, cellsOf vs with
    | some c, some cs => some (c :: cs)
    | _, _ => none
def valOf : Value → Option V
  | .agg cs => (cellsOf cs.toList).map fun xs => V.ag cs.size xs
  | v => (cellOf v).map V.c
noncomputable def opnd (tm : List V) : Operand → Option V
  | .tmp t => getL tm t
  | .const v => valOf v
  | _ => none
/-! numbers -/
def cint (op : BinOp) (k : IntKind) (a b : Int) : Option C :=
  match op with
  | .add => some (.i k (wrapQ k (a + b)))
  | .sub => some (.i k (wrapQ k (a - b)))
  | .mul => some (.i k (wrapQ k (a * b)))
  | .quo => if b = 0 then none else some (.i k (wrapQ k (a.tdiv b)))
  | .rem => if b = 0 then none else some (.i k (a.tmod b))
  | .and => some (.i k (wrapQ k (BitVec.ofInt k.bits a &&& BitVec.ofInt k.bits b).toNat))
  | .or => some (.i k (wrapQ k (BitVec.ofInt k.bits a ||| BitVec.ofInt k.bits b).toNat))
  | .xor => some (.i k (wrapQ k (BitVec.ofInt k.bits a ^^^ BitVec.ofInt k.bits b).toNat))
  | .eql => some (.b (eqI a b))
  | .neq => some (.b (!eqI a b))
  | .lss => some (.b (!leI b a))
  | .leq => some (.b (leI a b))
  | .gtr => some (.b (!leI a b))
  | .geq => some (.b (leI b a))
  | _ => none
def cshift (op : BinOp) (k : IntKind) (a b : Int) : Option C :=
  if b < 0 then none else match op with
  | .shl => some (.i k (wrapQ k (a * 2 ^ (min b.toNat k.bits))))
  | .shr => some (.i k (a.fdiv (2 ^ (min b.toNat k.bits))))
  | _ => none
def cstr (op : BinOp) (a b : List UInt8) : Option C :=
  match op with
  | .add => if ((a.length + b.length : Nat) : Int) > IntKind.i64.max then none else some (.s (a ++ b))
  | .eql => some (.b (a == b))
  | .neq => some (.b (!(a == b)))
  | _ => none
def pk : C → PK
  | .i k _ => .int k
  | .b _ => .bool
  | .s _ => .str
  | _ => .oth
/-- Are two cells of one kind alike? -/
def ceq : C → C → Bool
  | .i _ a, .i _ b => eqI a b
  | .b a, .b b => a == b
  | .s a, .s b => a == b
  | _, _ => false
noncomputable def ceqs (as : List C) : List C → Bool :=
  List.rec (motive := fun _ => List C → Bool) (fun bs => List.rec (motive := fun _ => Bool) true (fun _ _ _ => false) bs)
    (fun a _ ih bs => List.rec (motive := fun _ => Bool) false (fun b bs' _ => bif ceq a b then ih bs' else false) bs) as
def keq : PK → PK → Bool
  | .int a, .int b => Nat.beq a.ctorIdx b.ctorIdx
  | .bool, .bool => true
  | .str, .str => true
  | _, _ => false
/-- Are the cells of these kinds? -/
noncomputable def kinds (as : List C) : List PK → Bool :=
  List.rec (motive := fun _ => List PK → Bool) (fun bs => List.rec (motive := fun _ => Bool) true (fun _ _ _ => false) bs)
    (fun a _ ih bs => List.rec (motive := fun _ => Bool) false (fun b bs' _ => bif keq (pk a) b then ih bs' else false) bs) as
noncomputable def vbin (T : Tys) (op : BinOp) (t : TypeId) (x y : V) : Option V :=
  match x, y with
  | .c (.i k a), .c (.i k' b) =>
    match op with
    | .shl | .shr => (cshift op k a b).map V.c
    | _ => if k = k' then (cint op k a b).map V.c else none
  | .c (.s a), .c (.s b) => (cstr op a b).map V.c
  | .c (.b a), .c (.b b) =>
    match op, tyAt T t with
    | .eql, some ⟨.bool, _, _, _, _⟩ => some (.c (.b (a == b)))
    | .neq, some ⟨.bool, _, _, _, _⟩ => some (.c (.b (!(a == b))))
    | _, _ => none
  | .ag _ as, .ag _ bs =>
    match tyAt T t with
    | some ti =>
      bif ti.agg && !ti.ks.isEmpty && kinds as ti.ks && kinds bs ti.ks then
        match op with
        | .eql => some (.c (.b (ceqs as bs)))
        | .neq => some (.c (.b (!ceqs as bs)))
        | _ => none
      else none
    | none => none
  | .c .np, .c .np => match op, tyAt T t with
    | .eql, some ⟨.ptr, _, _, _, _⟩ => some (.c (.b true))
    | .neq, some ⟨.ptr, _, _, _, _⟩ => some (.c (.b false))
    | _, _ => none
  | .c (.p _ _), .c .np => match op, tyAt T t with
    | .eql, some ⟨.ptr, _, _, _, _⟩ => some (.c (.b false))
    | .neq, some ⟨.ptr, _, _, _, _⟩ => some (.c (.b true))
    | _, _ => none
  | .c (.q _ _ _), .c .np => match op, tyAt T t with
    | .eql, some ⟨.ptr, _, _, _, _⟩ => some (.c (.b false))
    | .neq, some ⟨.ptr, _, _, _, _⟩ => some (.c (.b true))
    | _, _ => none
  | _, _ => none
def vun (op : UnOp) (x : V) : Option V :=
  match op, x with
  | .neg, .c (.i k n) => some (.c (.i k (wrapQ k (0 - n))))
  | .not, .c (.b x) => some (.c (.b !x))
  | _, _ => none
/-! memory -/
/-- n of m cells from a place on. -/
noncomputable def sub (m : Nat) (xs : List C) (off n : Nat) : Option (List C) := bif Nat.beq off 0 && Nat.beq n m then some xs else takeL (dropL xs off) n
noncomputable def splice (m : Nat) (xs : List C) (off n : Nat) (ys : List C) : Option (List C) := bif Nat.beq off 0 && Nat.beq n m then some ys else spliceL ys xs off
/-- n cells that lie at a place. -/
noncomputable def rdAt (H : Heap) (a : C) (n : Nat) : Option (List C) :=
  match a with
  | .p id off => match getL H id with
    | some (.var _ m cs) => sub m cs off n
    | _ => none
  | .q id off gen => match getL H id with
    | some (.row _ cs k lo sz _) => bif Nat.ble lo gen && Nat.ble (off + n) (gen * sz) then sub (k * sz) cs off n else none
    | some (.ror cs k sz) => bif Nat.beq gen k then sub (k * sz) cs off n else none
    | _ => none
  | _ => none
noncomputable def wrAt (H : Heap) (a : C) (n : Nat) (ys : List C) : Option Heap :=
  match a with
  | .p id off => match getL H id with
    | some (.var true m cs) => match splice m cs off n ys with
      | some cs' => setL H (.var true m cs') id
      | none => none
    | _ => none
  | .q id off gen => match getL H id with
    | some (.row true cs k _ sz e) => bif Nat.beq gen k then match splice (k * sz) cs off n ys with
      | some cs' => setL H (.row true cs' k k sz e) id
      | none => none
      else none
    | _ => none
  | _ => none
def bytesC (l : List UInt8) : List C := l.map fun b => C.i .u8 b.toNat
/-- The cells of a slice's elements, sz cells each; of a string's bytes. -/
noncomputable def rdSl (H : Heap) (x : C) (sz : Nat) : Option (Nat × List C) :=
  match x with
  | .ns => some (0, [])
  | .sl id off len gen => bif Nat.beq len 0 then some (0, []) else match rdAt H (.q id off gen) (len * sz) with
    | some cs => some (len, cs)
    | none => none
  | .va id off len _ => bif Nat.beq len 0 then some (0, []) else match rdAt H (.p id off) (len * sz) with
    | some cs => some (len, cs)
    | none => none
  | .vr id off len _ gen => bif Nat.beq len 0 then some (0, []) else match rdAt H (.q id off gen) (len * sz) with
    | some cs => some (len, cs)
    | none => none
  | _ => none
noncomputable def vload (T : Tys) (H : Heap) (t : TypeId) (a : V) : Option V :=
  match a, tyAt T t with
  | .c a, some ti => bif ti.agg then (match rdAt H a ti.size with
      | some cs => some (.ag ti.size cs)
      | none => none) else match rdAt H a 1 with
    | some (c :: _) => some (.c c)
    | _ => none
  | _, _ => none
noncomputable def vstore (T : Tys) (H : Heap) (t : TypeId) (a x : V) : Option Heap :=
  match a, x.cells, tyAt T t with
  | .c a, some (n, ys), some ti => bif Nat.beq n ti.size then wrAt H a n ys else none
  | _, _, _ => none
noncomputable def vpart (T : Tys) (t : TypeId) (cs : List C) (off : Nat) : Option V :=
  match tyAt T t with
  | some ti => bif ti.agg then (match takeL (dropL cs off) ti.size with
      | some xs => some (.ag ti.size xs)
      | none => none) else match getL cs off with
    | some c => some (.c c)
    | none => none
  | none => none
noncomputable def vfield (T : Tys) (t : TypeId) (x : V) (f : Nat) : Option V :=
  match x, tyAt T t with
  | .ag _ cs, some ⟨.st fs, _, _, _, _⟩ => match getL fs f with
    | some (off, ft) => vpart T ft cs off
    | none => none
  | _, _ => none
noncomputable def vindex (T : Tys) (t : TypeId) (x y : V) : Option V :=
  match x, y, tyAt T t with
  | .ag _ cs, .c (.i _ j), some ⟨.arr n e, _, _, _, _⟩ => match tyAt T e with
    | some ei => bif inN j n then vpart T e cs (j.toNat * ei.size) else none
    | none => none
  | .c (.s l), .c (.i _ j), some ⟨.str, _, _, _, _⟩ => match j with
    | .ofNat m => match getL l m with
      | some b => some (.c (.i .u8 b.toNat))
      | none => none
    | .negSucc _ => none
  | _, _, _ => none
noncomputable def vfieldAddr (T : Tys) (t : TypeId) (x : V) (f : Nat) : Option V :=
  match tyAt T t with
  | some ⟨.st fs, _, _, _, _⟩ => match getL fs f with
    | some (o, ft) => match tyAt T ft with
      | some fi => bif Nat.beq fi.size 0 then none else match x with
        | .c (.p id off) => some (.c (.p id (off + o)))
        | .c (.q id off gen) => some (.c (.q id (off + o) gen))
        | _ => none
      | none => none
    | none => none
  | _ => none
noncomputable def vindexAddr (T : Tys) (t : TypeId) (x y : V) : Option V :=
  match y, tyAt T t with
  | .c (.i _ j), some ⟨.arr n e, _, _, _, _⟩ => match tyAt T e with
    | some ei => bif inN j n then match x with
      | .c (.p id off) => some (.c (.p id (off + j.toNat * ei.size)))
      | .c (.q id off gen) => some (.c (.q id (off + j.toNat * ei.size) gen))
      | _ => none
      else none
    | none => none
  | .c (.i _ j), some ⟨.sl e, _, _, _, _⟩ => match tyAt T e with
    | some ei => match x with
      | .c (.sl id off len gen) => bif inN j len then some (.c (.q id (off + j.toNat * ei.size) gen)) else none
      | .c (.va id off len _) => bif inN j len then some (.c (.p id (off + j.toNat * ei.size))) else none
      | .c (.vr id off len _ gen) => bif inN j len then some (.c (.q id (off + j.toNat * ei.size) gen)) else none
      | _ => none
    | none => none
  | _, _ => none
/-- The bounds of a slicing, below a limit. -/
def bnds (len lim : Nat) (lo hi : Option V) : Option (Nat × Nat) :=
  match (match hi with
    | none => some len
    | some (.c (.i _ h)) => bif inN h (lim + 1) then some h.toNat else none
    | _ => none) with
  | none => none
  | some h => match lo with
    | none => some (0, h)
    | some (.c (.i _ l)) => bif inN l (h + 1) then some (l.toNat, h) else none
    | _ => none
noncomputable def vslice (T : Tys) (t : TypeId) (x : V) (lo hi : Option V) : Option V :=
  match tyAt T t with
  | some ⟨.arr n e, _, _, _, _⟩ => match tyAt T e, x with
    | some ei, .c (.p id off) => match bnds n n lo hi with
      | some (l, h) => some (.c (.va id (off + l * ei.size) (h - l) (n - l)))
      | none => none
    | some ei, .c (.q id off gen) => match bnds n n lo hi with
      | some (l, h) => some (.c (.vr id (off + l * ei.size) (h - l) (n - l) gen))
      | none => none
    | _, _ => none
  | some ⟨.sl e, _, _, _, _⟩ => match tyAt T e, x with
    | some ei, .c (.sl id off len gen) => match bnds len len lo hi with
      | some (l, h) => bif Nat.ble 1 ei.size then some (.c (.sl id (off + l * ei.size) (h - l) gen)) else none
      | none => none
    | some ei, .c (.va id off len cap) => match bnds len cap lo hi with
      | some (l, h) => some (.c (.va id (off + l * ei.size) (h - l) (cap - l)))
      | none => none
    | some ei, .c (.vr id off len cap gen) => match bnds len cap lo hi with
      | some (l, h) => some (.c (.vr id (off + l * ei.size) (h - l) (cap - l) gen))
      | none => none
    | some _, .c .ns => match bnds 0 0 lo hi with
      | some _ => some (.c .ns)
      | none => none
    | _, _ => none
  | some ⟨.str, _, _, _, _⟩ => match x with
    | .c (.s s) => match bnds s.length s.length lo hi with
      | some (l, h) => match takeL (dropL s l) (h - l) with
        | some s' => some (.c (.s s'))
        | none => none
      | none => none
    | _ => none
  | _ => none
noncomputable def fillC (place : Nat → Option (Nat × Nat)) (m : Nat) (ps : List (Nat × V)) : List C → Option (List C) :=
  List.rec (motive := fun _ => List C → Option (List C)) (fun cs => some cs)
    (fun p _ ih cs => match place p.1, p.2.cells with
      | some (off, size), some (n, ys) => bif Nat.beq n size then match splice m cs off n ys with
        | some cs' => ih cs'
        | none => none
        else none
      | _, _ => none) ps
noncomputable def vbuild (T : Tys) (t : TypeId) (ps : List (Nat × V)) : Option V :=
  match tyAt T t with
  | some ti => match ti.kd with
    | .st fs => match fillC (fun i => match getL fs i with
        | some (off, ft) => match tyAt T ft with
          | some fi => some (off, fi.size)
          | none => none
        | none => none) ti.size ps ti.zero with
      | some cs => some (.ag ti.size cs)
      | none => none
    | .arr _ e => match tyAt T e with
      | some ei => match fillC (fun i => some (i * ei.size, ei.size)) ti.size ps ti.zero with
        | some cs => some (.ag ti.size cs)
        | none => none
      | none => none
    | _ => none
  | none => none
noncomputable def many (n : Nat) (z : List C) : List C := Nat.rec (motive := fun _ => List C) [] (fun _ ih => appL z ih) n
noncomputable def vbuildSlice (T : Tys) (H : Heap) (t : TypeId) (n : Nat) (ps : List (Nat × V)) : Option (V × Heap) :=
  match tyAt T t with
  | some ⟨.sl e, _, _, _, _⟩ => match tyAt T e with
    | some ei => bif Nat.ble 1 n && Nat.ble 1 ei.size && Nat.ble (n * ei.size) 16777216 then
        match fillC (fun i => some (i * ei.size, ei.size)) (n * ei.size) ps (many n ei.zero) with
        | some cs => some (.c (.sl H.length 0 n n), appL H [.row true cs n n ei.size e])
        | none => none
      else none
    | none => none
  | _ => none
noncomputable def allU8 (cs : List C) : Option (List UInt8) :=
  List.rec (motive := fun _ => Option (List UInt8)) (some []) (fun c _ ih => match c with
    | .i .u8 n => match ih with
      | some l => some (UInt8.ofNat n.toNat :: l)
      | none => none
    | _ => none) cs
noncomputable def vconvert (T : Tys) (H : Heap) (src dst : TypeId) (x : V) : Option (V × Heap) :=
  match tyAt T src, tyAt T dst, x with
  | some ⟨.int _, _, _, _, _⟩, some ⟨.int k, _, _, _, _⟩, .c (.i _ n) => some (.c (.i k (wrapQ k n)), H)
  | some ⟨.str, _, _, _, _⟩, some ⟨.str, _, _, _, _⟩, .c (.s l) => some (.c (.s l), H)
  | some ⟨.str, _, _, _, _⟩, some ⟨.sl e, _, _, _, _⟩, .c (.s l) => match tyAt T e with
    | some ⟨.int .u8, _, _, _, _⟩ => bif Nat.ble l.length 140737488355328 then some (.c (.sl H.length 0 l.length l.length), appL H [.ror (bytesC l) l.length 1]) else none
    | _ => none
  | some ⟨.sl e, _, _, _, _⟩, some ⟨.sl e', _, _, _, _⟩, .c (.sl id off len gen) => match tyAt T e with
    | some ⟨.int .u8, _, _, _, _⟩ => bif Nat.beq src dst && Nat.beq e e' && Nat.ble 1 len && Nat.beq off 0 && Nat.beq gen len then match getL H id with
      | some (.row true cs n _ sz _) => bif Nat.beq gen n then match setL H (.ror cs n sz) id with
        | some H' => some (.c (.sl id 0 len gen), H')
        | none => none
        else none
      | _ => none
      else none
    | _ => none
  | some ⟨.sl e, _, _, _, _⟩, some ⟨.str, _, _, _, _⟩, .c x => match tyAt T e with
    | some ⟨.int .u8, _, _, _, _⟩ => match x with
      | .s _ => none
      | x => match rdSl H x 1 with
        | some (_, cs) => match allU8 cs with
          | some l => some (.c (.s l), H)
          | none => none
        | none => none
    | _ => none
  | _, _, _ => none
noncomputable def vappend (T : Tys) (H : Heap) (t t2 : TypeId) (s x : V) : Option (V × Heap) :=
  match tyAt T t, tyAt T t2, s, x with
  | some ⟨.sl e, _, _, _, _⟩, some t2i, .c s, .c x => match tyAt T e, t2i.kd with
    | _, .int _ => none
    | some ei, _ => bif !Nat.beq t t2 then none else match rdSl H x ei.size with
      | some (m, new) => bif Nat.ble 1 ei.size && Nat.ble 1 ei.bytes then
        match s with
        | .ns => bif Nat.ble (m * ei.bytes) 140737488355328 then some (.c (.sl H.length 0 m m), appL H [.row true new m m ei.size e]) else none
        | .sl id off len gen => match getL H id with
          | some (.row true cs n lo sz e') => bif Nat.beq off 0 && Nat.beq len n && Nat.beq gen n && Nat.beq sz ei.size && Nat.beq e' e && Nat.ble ((n + m) * ei.bytes) 140737488355328 then
              match setL H (.row true (appL cs new) (n + m) lo sz e') id with
              | some H' => some (.c (.sl id 0 (n + m) (n + m)), H')
              | none => none
            else none
          | _ => none
        | .va id off len cap => bif Nat.beq len cap && Nat.ble 1 len && Nat.ble 1 m && Nat.ble ((len + m) * ei.bytes) 140737488355328 then match rdAt H (.p id off) (len * ei.size) with
          | some old => some (.c (.sl H.length 0 (len + m) (len + m)), appL H [.row true (appL old new) (len + m) (len + m) ei.size e])
          | none => none
          else none
        | _ => none
        else none
      | none => none
    | _, _ => none
  | _, _, _, _ => none
noncomputable def vcopy (T : Tys) (H : Heap) (t : TypeId) (d x : V) : Option (V × Heap) :=
  match tyAt T t, d, x with
  | some ⟨.sl e, _, _, _, _⟩, .c d, .c x => match tyAt T e with
    | some ei => match rdSl H x ei.size with
      | some (m, new) => bif Nat.ble 1 ei.size then
        match (match d with
          | .va id off len _ => some (C.p id off, len)
          | .vr id off len _ gen => some (C.q id off gen, len)
          | .sl id off len gen => some (C.q id off gen, len)
          | _ => none) with
        | some (a, len) => bif Nat.beq (Nat.min m len) 0 then some (.c (.i .i64 0), H) else
          match takeL new (Nat.min m len * ei.size) with
          | some ys => match wrAt H a (Nat.min m len * ei.size) ys with
            | some H' => some (.c (.i .i64 (Nat.min m len : Nat)), H')
            | none => none
          | none => none
        | none => none
        else none
      | none => none
    | none => none
  | _, _, _ => none
noncomputable def vlen (T : Tys) (H : Heap) (t : TypeId) (x : V) : Option V :=
  match tyAt T t, x with
  | some ⟨.str, _, _, _, _⟩, .c (.s l) => some (.c (.i .i64 l.length))
  | some ⟨.arr n _, _, _, _, _⟩, _ => some (.c (.i .i64 n))
  | some ⟨.sl _, _, _, _, _⟩, .c (.sl _ _ n _) => some (.c (.i .i64 n))
  | some ⟨.sl _, _, _, _, _⟩, .c (.va _ _ n _) => some (.c (.i .i64 n))
  | some ⟨.sl _, _, _, _, _⟩, .c (.vr _ _ n _ _) => some (.c (.i .i64 n))
  | some ⟨.sl _, _, _, _, _⟩, .c .ns => some (.c (.i .i64 0))
  | some ⟨.mp _ _, _, _, _, _⟩, .c (.m id) => match getL H id with
    | some (.mp _ ks) => some (.c (.i .i64 ks.length))
    | _ => none
  | _, _ => none
/-- Sets of numbers: maps whose elements hold nothing. -/
noncomputable def mapHas (q : IntKind) (n : Int) (l : List (IntKind × Int)) : Option Bool :=
  List.rec (motive := fun _ => Option Bool) (some false) (fun x _ ih => bif Nat.beq x.1.ctorIdx q.ctorIdx then (bif eqI n x.2 then some true else ih) else none) l
noncomputable def mapKd (T : Tys) (t : TypeId) : Option IntKind := match tyAt T t with
  | some ⟨.mp k e, _, _, _, _⟩ => match tyAt T k, tyAt T e with
    | some ⟨.int q, _, _, _, _⟩, some ⟨.st [], _, _, [], _⟩ => some q
    | _, _ => none
  | _ => none
noncomputable def vlookup (T : Tys) (H : Heap) (t : TypeId) (m k : V) : Option V := match mapKd T t, m, k with
  | some q, .c (.m id), .c (.i q' n) => bif Nat.beq q'.ctorIdx q.ctorIdx then match getL H id with
    | some (.mp _ ks) => (mapHas q n ks).map fun b => V.t [.ag 0 [], .c (.b b)]
    | _ => none
    else none
  | _, _, _ => none
noncomputable def vmapUpd (T : Tys) (H : Heap) (t : TypeId) (m k x : V) : Option Heap := match mapKd T t, m, k, x with
  | some q, .c (.m id), .c (.i q' n), .ag 0 [] => bif Nat.beq q'.ctorIdx q.ctorIdx then match getL H id with
    | some (.mp true ks) => match mapHas q n ks with
      | some true => some H
      | some false => setL H (.mp true (appL ks [(q, n)])) id
      | none => none
    | _ => none
    else none
  | _, _, _, _ => none
def min2C (mx : Bool) (x y : V) : Option V := match x, y with
  | .c (.i k a), .c (.i k' b) => bif Nat.beq k.ctorIdx k'.ctorIdx then some (.c (.i k (bif mx then (bif leI b a then a else b) else (bif leI a b then a else b)))) else none
  | _, _ => none
noncomputable def minC (mx : Bool) (r : List V) : V → Option V :=
  List.rec (motive := fun _ => V → Option V) (fun x => some x) (fun y _ ih x => match min2C mx x y with
    | some z => ih z
    | none => none) r
noncomputable def vmakeSlice (T : Tys) (H : Heap) (t : TypeId) (l c : V) : Option (V × Heap) :=
  match tyAt T t, l, c with
  | some ⟨.sl e, _, _, _, _⟩, .c (.i _ l), .c (.i _ c) => match tyAt T e with
    | some ei => bif eqI l c && leI 0 l && Nat.ble (l.toNat * ei.bytes) 140737488355328 && Nat.ble 1 ei.size && Nat.ble 1 ei.bytes then
        some (.c (.sl H.length 0 l.toNat l.toNat), appL H [.row true (many l.toNat ei.zero) l.toNat l.toNat ei.size e]) else none
    | none => none
  | _, _, _ => none
noncomputable def vasPtr (T : Tys) (t : TypeId) (x : V) : Option V :=
  match tyAt T t, x with
  | some ⟨.arr n _, _, _, _, _⟩, .c (.va id off len _) => bif Nat.ble n len && Nat.ble 1 n then some (.c (.p id off)) else none
  | some ⟨.arr n _, _, _, _, _⟩, .c (.sl id off len gen) => bif Nat.ble n len && Nat.ble 1 n then some (.c (.q id off gen)) else none
  | _, _ => none
noncomputable def opnds (tm : List V) (l : List Operand) : Option (List V) :=
  List.rec (motive := fun _ => Option (List V)) (some []) (fun x _ ih => match opnd tm x, ih with
    | some v, some vs => some (v :: vs)
    | _, _ => none) l
noncomputable def parts (tm : List V) (l : List (Nat × Operand)) : Option (List (Nat × V)) :=
  List.rec (motive := fun _ => Option (List (Nat × V))) (some []) (fun p _ ih => match opnd tm p.2, ih with
    | some v, some vs => some ((p.1, v) :: vs)
    | _, _ => none) l
noncomputable def opndO (tm : List V) : Option Operand → Option (Option V)
  | none => some none
  | some x => (opnd tm x).map some
abbrev CallF := FuncId → List V → Heap → Option (V × Heap)
/-! what a value refers to -/
def C.ref : C → Option Nat
  | .p id _ | .q id _ _ | .sl id _ _ _ | .va id _ _ _ | .vr id _ _ _ _ | .m id | .fv _ id => some id
  | _ => none
def V1.refs : V1 → List Nat
  | .c x => x.ref.toList
  | .ag _ xs => xs.filterMap C.ref
def V.refs : V → List Nat
  | .c x => x.ref.toList
  | .ag _ xs => xs.filterMap C.ref
  | .t xs => xs.flatMap V1.refs
def C.ren (f : Nat → Nat) : C → C
  | .p id o => .p (f id) o
  | .q id o g => .q (f id) o g
  | .sl id o l g => .sl (f id) o l g
  | .va id o l c => .va (f id) o l c
  | .vr id o l c g => .vr (f id) o l c g
  | .m id => .m (f id)
  | .fv g id => .fv g (f id)
  | c => c
def V1.ren (f : Nat → Nat) : V1 → V1
  | .c x => .c (x.ren f)
  | .ag n xs => .ag n (xs.map (C.ren f))
def V.ren (f : Nat → Nat) : V → V
  | .c x => .c (x.ren f)
  | .ag n xs => .ag n (xs.map (C.ren f))
  | .t xs => .t (xs.map (V1.ren f))
def Bk.cellsNoRef : Bk → Bool
  | .var _ _ cs => cs.all fun c => c.ref.isNone
  | .row _ cs _ _ _ _ => cs.all fun c => c.ref.isNone
  | .ror cs _ _ => cs.all fun c => c.ref.isNone
  | _ => true
/-- The same, quicker in the kernel. -/
noncomputable def refsL (l : List C) : List Nat := List.rec (motive := fun _ => List Nat) [] (fun x _ ih => C.rec (motive := fun _ => List Nat) ih (fun _ _ => ih) (fun _ => ih) (fun _ => ih) ih (fun id _ => id :: ih) (fun id _ _ => id :: ih) ih (fun id _ _ _ => id :: ih) (fun id _ _ _ => id :: ih) (fun id _ _ _ _ => id :: ih) ih (fun id => id :: ih) ih (fun _ id => id :: ih) x) l
noncomputable def V.refsQ : V → List Nat
  | .ag _ xs => refsL xs
  | v => v.refs
theorem refsL_eq : ∀ l : List C, refsL l = l.filterMap C.ref
  | [] => rfl
  | x :: l => by
    have h := refsL_eq l
    have e : refsL (x :: l) = (match x.ref with
      | some id => id :: refsL l
      | none => refsL l) := by cases x <;> rfl
    rw [e, h, List.filterMap_cons]
    cases x.ref <;> rfl
theorem V.refsQ_eq (v : V) : v.refsQ = v.refs := by
  cases v with
  | ag n xs => exact refsL_eq xs
  | _ => rfl
/-- What a call leaves: the blocks that were there, and those new ones that its result speaks of. -/
noncomputable def gc (H : Heap) (v : V) (N : Heap) : V × Heap :=
  match v.refsQ.filter (fun id => Nat.ble H.length id) with
  | [] => (v, H)
  | [id] => match getL N (id - H.length) with
    | some (.row w cs n lo sz e) => bif (Bk.row w cs n lo sz e).cellsNoRef then (v.ren (fun j => bif Nat.ble (j + 1) H.length then j else H.length), appL H [.row w cs n lo sz e]) else (v, appL H N)
    | _ => (v, appL H N)
  | _ => (v, appL H N)
noncomputable def vcall (call : CallF) (f : FuncId) (args : List V) (H : Heap) : Option (V × Heap) :=
  match call f args (freeze H) with
  | some (v, H') => some (gc H v (dropL H' H.length))
  | none => call f args H
/-- One operation: its value, and memory behind it. -/
noncomputable def evOp (T : Tys) (call : CallF) (o : Op) (tm : List V) (H : Heap) : Option (V × Heap) :=
  match o with
  | .move x | .assign x => (opnd tm x).map fun v => (v, H)
  | .pick c a b => match opnd tm c with
    | some (.c (.b true)) => (opnd tm a).map fun v => (v, H)
    | some (.c (.b false)) => (opnd tm b).map fun v => (v, H)
    | _ => none
  | .makeFunc fn fs cs => match fn, fs.toList, cs.toList with
    | .func f, [], [x] => match opnd tm x with
      | some (.c (.p id 0)) => some (.c (.fv f id), H)
      | _ => none
    | _, _, _ => none
  | .alloc t => match tyAt T t with
    | some ti => some (.c (.p H.length 0), appL H [.var true ti.size ti.zero])
    | none => none
  | .box _ x => match opnd tm x with
    | some v => match v.cells with
      | some (n, cs) => some (.c (.p H.length 0), appL H [.var true n cs])
      | none => none
    | none => none
  | .build t ps => match parts tm ps.toList with
    | some vs => (vbuild T t vs).map fun v => (v, H)
    | none => none
  | .buildSlice t n ps => match parts tm ps.toList with
    | some vs => vbuildSlice T H t n vs
    | none => none
  | .load t a => match opnd tm a with
    | some a => (vload T H t a).map fun v => (v, H)
    | none => none
  | .store t a x => match opnd tm a, opnd tm x with
    | some a, some x => (vstore T H t a x).map fun H' => (.c .un, H')
    | _, _ => none
  | .binOp op t x y _ => match opnd tm x, opnd tm y with
    | some x, some y => (vbin T op t x y).map fun v => (v, H)
    | _, _ => none
  | .unOp op _ x => match opnd tm x with
    | some x => (vun op x).map fun v => (v, H)
    | none => none
  | .convert s d x => match opnd tm x with
    | some x => vconvert T H s d x
    | none => none
  | .sliceToArrayPointer t x => match opnd tm x with
    | some x => (vasPtr T t x).map fun v => (v, H)
    | none => none
  | .makeSlice t l c => match opnd tm l, opnd tm c with
    | some l, some c => vmakeSlice T H t l c
    | _, _ => none
  | .slice t x lo hi none => match opnd tm x, opndO tm lo, opndO tm hi with
    | some x, some lo, some hi => (vslice T t x lo hi).map fun v => (v, H)
    | _, _, _ => none
  | .fieldAddr t x f => match opnd tm x with
    | some x => (vfieldAddr T t x f).map fun v => (v, H)
    | none => none
  | .field t x f => match opnd tm x with
    | some x => (vfield T t x f).map fun v => (v, H)
    | none => none
  | .indexAddr t x y => match opnd tm x, opnd tm y with
    | some x, some y => (vindexAddr T t x y).map fun v => (v, H)
    | _, _ => none
  | .index t x y => match opnd tm x, opnd tm y with
    | some x, some y => (vindex T t x y).map fun v => (v, H)
    | _, _ => none
  | .extract x j => match opnd tm x with
    | some (.t vs) => (getL vs j).map fun v => (v.toV, H)
    | _ => none
  | .call ⟨.value (.func f), as, _⟩ => match opnds tm as.toList with
    | some vs => vcall call f vs H
    | none => none
  | .call ⟨.builtin .len, as, ts⟩ => match opnds tm as.toList, ts.toList with
    | some [x], [t] => (vlen T H t x).map fun v => (v, H)
    | _, _ => none
  | .call ⟨.builtin .append, as, ts⟩ => match opnds tm as.toList, ts.toList with
    | some [s, x], [t, t2] => vappend T H t t2 s x
    | _, _ => none
  | .call ⟨.builtin .copy, as, ts⟩ => match opnds tm as.toList, ts.toList with
    | some [d, x], [t, _] => vcopy T H t d x
    | _, _ => none
  | .call ⟨.builtin .min, as, _⟩ => match opnds tm as.toList with
    | some (x :: r) => (minC false r x).map fun v => (v, H)
    | _ => none
  | .call ⟨.builtin .max, as, _⟩ => match opnds tm as.toList with
    | some (x :: r) => (minC true r x).map fun v => (v, H)
    | _ => none
  | .makeMap _ none => some (.c (.m H.length), appL H [.mp true []])
  | .lookup t m k true => match opnd tm m, opnd tm k with
    | some m, some k => (vlookup T H t m k).map fun v => (v, H)
    | _, _ => none
  | .mapUpdate t m k x => match opnd tm m, opnd tm k, opnd tm x with
    | some m, some k, some x => (vmapUpd T H t m k x).map fun H' => (.c .un, H')
    | _, _, _ => none
  | .nilCheck x => match opnd tm x with
    | some (.c (.p id off)) => some (.c (.p id off), H)
    | some (.c (.q id off g)) => some (.c (.q id off g), H)
    | _ => none
  | _ => none
/-! regions -/
noncomputable def putT (tm : List V) (d : Option Tmp) (v : V) : Option (List V) := match d with
  | some d => setL tm v d
  | none => some tm
noncomputable def gdst (ops : List Oper) (j : Nat) : Option Tmp := match getL ops j with
  | some o => o.dst
  | none => none
/-- Is an operation wanted? (none: cannot be told) -/
noncomputable def wantedE (ops : List Oper) (o : Oper) (tm : List V) : Option Bool :=
  match o.guard with
  | none => some true
  | some (j, want) => match gdst ops j with
    | some d => match getL tm d with
      | some (.c (.b x)) => some (x == want)
      | some (.c .un) => some false
      | _ => none
    | none => none
noncomputable def evStep (T : Tys) (call : CallF) (ops : List Oper) (o : Oper) (tm : List V) (H : Heap) : Option (V × Heap) :=
  match wantedE ops o tm with
  | some true => evOp T call o.op tm H
  | some false => some (.c .un, H)
  | none => none
noncomputable def evSeq (T : Tys) (call : CallF) (ops l : List Oper) : List V → Heap → Option (List V × Heap) :=
  List.rec (motive := fun _ => List V → Heap → Option (List V × Heap)) (fun tm H => some (tm, H))
    (fun o _ ih tm H => match evStep T call ops o tm H with
      | some (v, H') => forceV v fun v => match putT tm o.dst v with
        | some tm' => ih tm' H'
        | none => none
      | none => none) l
/-- Is a number in a set of numbers (a bit each)? -/
def bit (m n : Nat) : Bool := Nat.beq (Nat.land (Nat.shiftRight m n) 1) 1
/-- All that an operation stands behind, of the operations listed so far. -/
noncomputable def deps (cls : List Nat) (es : List Edge) : Nat → Nat :=
  List.rec (motive := fun _ => Nat → Nat) (fun m => m) (fun e _ ih m => bif Region.binds .any e then ih (Nat.lor m (Nat.lor (Nat.pow 2 e.on) ((getL cls e.on).getD 0))) else ih m) es
noncomputable def clsOf (l : List Oper) : List Nat → List Nat :=
  List.rec (motive := fun _ => List Nat → List Nat) (fun acc => acc) (fun o _ ih acc => forceN (deps acc o.after.toList 0) fun m => ih (appL acc [m])) l
/-- The set of an operation. -/
noncomputable def clAt (cls : List Nat) (i : Nat) : Nat := (getL cls i).getD 0
noncomputable def reads (ops : List Oper) (o : Oper) : List Tmp :=
  (o.op.operands.toList.filterMap fun | .tmp t => some t | _ => none) ++ (match o.guard with
    | some (j, _) => (gdst ops j).toList
    | none => [])
/-- May the operations be taken in any order that the edges allow? -/
noncomputable def apartB (ops : List Oper) (cls : List Nat) : Bool :=
  (List.range ops.length).all fun i => (List.range ops.length).all fun k =>
    (i == k) || (match getL ops i, getL ops k with
      | some oi, some ok => match ok.dst with
        | some d => (oi.dst != some d) && (bit (clAt cls i) k || bit (clAt cls k) i || !(reads ops oi).contains d)
        | none => true
      | _, _ => false)
def noSel (ops : List Oper) : Bool := ops.all fun o => match o.op with | .select .. => false | _ => true
/-- What an operation sees of the blocks that are made in its region: those whose maker it stands behind, and whose writer too. -/
def viewN (cl : Nat) : List Nat → List (Option Nat) → Heap → Heap
  | w :: ws, u :: us, b :: bs => (bif bit cl w then (bif (match u with
    | none => true
    | some j => bit cl j) then b else .dead b.gb) else .dead 0) :: viewN cl ws us bs
  | _, _, _ => []
def isStore : Op → Bool
  | .store .. => true
  | _ => false
structure Rg where
  tm : List V
  own : List Nat
  upd : List (Option Nat)
  N : Heap
/-- A store into a block that was made in the region: all that see the block before it must stand ahead of it. -/
noncomputable def evLocal (T : Tys) (ops : List Oper) (H0 : Heap) (cls : List Nat) (i : Nat) (o : Oper) (t : TypeId) (a x : Operand) (r : Rg) : Option Rg :=
  match wantedE ops o r.tm, opnd r.tm a, opnd r.tm x, tyAt T t with
  | some true, some (.c (.p id off)), some x, some ti => match x.cells with
    | some (n, ys) => bif Nat.beq n ti.size && Nat.ble H0.length id then
      match getL r.N (id - H0.length), getL r.own (id - H0.length), getL r.upd (id - H0.length) with
      | some (.var true m cs), some k, some none =>
        bif bit (clAt cls i) k && (List.range i).all (fun j => !bit (clAt cls j) k || bit (clAt cls i) j) then
          match splice m cs off n ys with
          | some cs' => match setL r.N (.var true m cs') (id - H0.length), setL r.upd (some i) (id - H0.length), putT r.tm o.dst (.c .un) with
            | some N', some upd', some tm' => some ⟨tm', r.own, upd', N'⟩
            | _, _, _ => none
          | none => none
        else none
      | _, _, _ => none
      else none
    | none => none
  | _, _, _, _ => none
/-- The operations of a region that draws its order, in the order in which they are listed; each sees, of what is made in the region, only what it stands behind, and changes nothing that was there. -/
noncomputable def evAny (T : Tys) (call : CallF) (ops : List Oper) (H0 : Heap) (cls : List Nat) (l : List Oper) : Nat → Rg → Option Rg :=
  List.rec (motive := fun _ => Nat → Rg → Option Rg) (fun _ r => some r)
    (fun o _ ih i r => match o.op with
      | .store t a x => match evLocal T ops H0 cls i o t a x r with
        | some r' => ih (i + 1) r'
        | none => none
      | _ => match evStep T call ops o r.tm (appL (freeze H0) (freeze (viewN (clAt cls i) r.own r.upd r.N))) with
        | some (v, H') => forceV v fun v => match putT r.tm o.dst v with
          | some tm' => ih (i + 1) ⟨tm', appL r.own (List.replicate (dropL H' (H0.length + r.N.length)).length i), appL r.upd (List.replicate (dropL H' (H0.length + r.N.length)).length none), appL r.N (dropL H' (H0.length + r.N.length))⟩
          | none => none
        | none => none) l
/-- An operation stands behind those listed ahead of it alone; and behind what they stand behind. -/
noncomputable def orderB (cls : List Nat) (m : Nat) : Bool :=
  (List.range m).all fun i => Nat.ble (clAt cls i + 1) (Nat.pow 2 i) && (List.range m).all fun k => !bit (clAt cls i) k || Nat.beq (Nat.lor (clAt cls k) (clAt cls i)) (clAt cls i)
/-- From here on each operation stands behind all that are listed ahead of it. -/
noncomputable def tailN (cls : List Nat) : Nat → Nat
  | 0 => 0
  | n + 1 => if (List.range n).all fun i => bit (clAt cls n) i then tailN cls n else n + 1
/-- A bare move that stands behind nothing. -/
noncomputable def freeM (ops : List Oper) (cls : List Nat) (i : Nat) : Bool :=
  Nat.beq (clAt cls i) 0 && (match getL ops i with
    | some o => match o.op, o.guard with
      | .move _, none => true
      | _, _ => false
    | none => false)
/-- From here on each operation stands behind all that are listed ahead of it, but for free moves. -/
noncomputable def tailF (ops : List Oper) (cls : List Nat) : Nat → Nat
  | 0 => 0
  | n + 1 => if !freeM ops cls n && (List.range n).all fun i => bit (clAt cls n) i || freeM ops cls i then tailF ops cls n else n + 1
def isApp (o : Option Oper) : Bool := match o with
  | some o => match o.op with
    | .call ⟨.builtin .append, _, _⟩ => true
    | _ => false
  | none => false
noncomputable def tailX (ops : List Oper) (cls : List Nat) : Nat :=
  bif Nat.ble (tailF ops cls ops.length + 1) (tailN cls ops.length) && isApp (getL ops (tailF ops cls ops.length)) then tailF ops cls ops.length else tailN cls ops.length
noncomputable def evDraw (T : Tys) (call : CallF) (ops : List Oper) (tm : List V) (H : Heap) : Option (List V × Heap) :=
  let cls := clsOf ops []
  bif apartB ops cls && noSel ops && orderB cls ops.length then
    match evAny T call ops H cls (ops.take (tailX ops cls)) 0 ⟨tm, [], [], []⟩ with
    | some r => evSeq T call ops (dropL ops (tailX ops cls)) r.tm (appL H r.N)
    | none => none
  else none
/-! a region that draws its order, of two calls that write, the one behind the other ('f(..) == g(..)'): what is made ready for the second is made ready ahead of the first or behind it, and is the same -/
def isCallF (o : Option Oper) : Bool := match o with
  | some o => match o.op with
    | .call ⟨.value (.func _), _, _⟩ => true
    | _ => false
  | none => false
def isEqO (o : Option Oper) : Bool := match o with
  | some o => match o.op with
    | .binOp .eql _ _ _ _ => true
    | _ => false
  | none => false
def isAsgO (o : Option Oper) : Bool := match o with
  | some o => match o.op with
    | .assign _ => true
    | _ => false
  | none => false
noncomputable def lastCall (ops : List Oper) : Nat → Option Nat
  | 0 => none
  | n + 1 => bif isCallF (getL ops n) then some n else lastCall ops n
noncomputable def mixAt (ops : List Oper) : Option (Nat × Nat) := match ops.length with
  | n + 3 => bif isCallF (getL ops n) && isEqO (getL ops (n + 1)) && isAsgO (getL ops (n + 2)) then (match lastCall ops n with
    | some i => some (i, n)
    | none => none) else none
  | _ => none
noncomputable def mixB (ops : List Oper) (cls : List Nat) (i1 i2 : Nat) : Bool :=
  apartB ops cls && noSel ops && orderB cls ops.length && Nat.ble (i1 + 1) i2 && Nat.ble i2 ops.length
  && (List.range ops.length).all (fun j => Nat.ble (j + 1) i2 || (List.range j).all fun i => bit (clAt cls j) i)
  && (List.range i1).all (fun i => bit (clAt cls i1) i)
  && (List.range i2).all (fun j => Nat.ble j i1 || !bit (clAt cls j) i1)
  && (List.range ops.length).all (fun i => (List.range ops.length).all fun k => Nat.ble (k + 1) i || (match getL ops i, gdst ops k with
    | some oi, some d => !(reads ops oi).contains d
    | _, _ => true))
open Classical in
/-- Operations that change nothing, one behind the other. -/
noncomputable def evQ (T : Tys) (call : CallF) (ops : List Oper) : List Oper → List V → Heap → Option (List V)
  | [], tm, _ => some tm
  | o :: l, tm, H => match evStep T call ops o tm H with
    | some (v, H') => if H' = H then (match putT tm o.dst v with
      | some tm' => evQ T call ops l tm' H
      | none => none) else none
    | none => none
open Classical in
noncomputable def evMix (T : Tys) (call : CallF) (ops : List Oper) (i1 i2 : Nat) (tm : List V) (H : Heap) : Option (List V × Heap) :=
  bif mixB ops (clsOf ops []) i1 i2 then
    match getL ops i1, evQ T call ops (ops.take i1 ++ (ops.take i2).drop (i1 + 1)) tm H with
    | some o1, some tmA => match evStep T call ops o1 tmA H with
      | some (v1, H1) => match putT tmA o1.dst v1 with
        | some tm1 => if evQ T call ops ((ops.take i2).drop (i1 + 1)) tm1 H1 = some tm1 then evSeq T call ops (ops.drop i2) tm1 H1 else none
        | none => none
      | none => none
    | _, _ => none
  else none
noncomputable def evDrawM (T : Tys) (call : CallF) (ops : List Oper) (tm : List V) (H : Heap) : Option (List V × Heap) :=
  match mixAt ops with
  | some (i1, i2) => evMix T call ops i1 i2 tm H
  | none => evDraw T call ops tm H
/-! code -/
inductive Ex where
  | normal
  | exit (id : Nat)
  | ret
  deriving DecidableEq
structure St where
  tm : List V
  H : Heap
noncomputable def iter (f : St → Option (Ex × St)) (n : Nat) : St → Option (Ex × St) :=
  Nat.rec (motive := fun _ => St → Option (Ex × St)) (fun _ => none) (fun _ ih s => match f s with
    | some (.normal, s') => ih s'
    | r => r) n
noncomputable def evC (T : Tys) (call : CallF) (K : Nat) (c : Code) : St → Option (Ex × St) :=
  Code.rec (motive := fun _ => St → Option (Ex × St))
    (fun s => some (.normal, s))
    (fun _ ops draw s => match (bif draw then evDrawM T call ops.toList s.tm s.H else evSeq T call ops.toList ops.toList s.tm s.H) with
      | some (tm, H) => some (.normal, ⟨tm, H⟩)
      | none => none)
    (fun _ _ ih1 ih2 s => match ih1 s with
      | some (.normal, s') => ih2 s'
      | r => r)
    (fun c _ _ ih1 ih2 s => match opnd s.tm c with
      | some (.c (.b x)) => bif x then ih1 s else ih2 s
      | _ => none)
    (fun id _ ih s => match ih s with
      | some (.exit j, s') => bif Nat.beq j id then some (.normal, s') else some (.exit j, s')
      | r => r)
    (fun _ ih s => iter ih K s)
    (fun _ _ _ _ _ _ _ => none)
    (fun id s => some (.exit id, s))
    (fun _ _ _ => none)
    (fun _ s => some (.normal, s))
    (fun _ _ => none)
    (fun s => some (.ret, s))
    (fun _ _ => none) c
noncomputable def resV (T : Tys) (tm : List V) (H : Heap) : ResultVar → Option V
  | .tmp t => getL tm t
  | .cell a t => match getL tm a with
    | some a => vload T H t a
    | none => none
noncomputable def resVs (T : Tys) (tm : List V) (H : Heap) : List ResultVar → Option (List V)
  | [] => some []
  | r :: rs => match resV T tm H r, resVs T tm H rs with
    | some v, some vs => some (v :: vs)
    | _, _ => none
def to1s : List V → Option (List V1)
  | [] => some []
  | v :: vs => match v.to1, to1s vs with
    | some x, some xs => some (x :: xs)
    | _, _ => none
noncomputable def res (T : Tys) (fn : Func) (s : St) : Option V :=
  match resVs T s.tm s.H fn.results.toList with
  | some [v] => some v
  | some vs => (to1s vs).map V.t
  | none => none
noncomputable def evF (T : Tys) (F : Fns) (K : Nat) : Nat → CallF
  | 0, _, _, _ => none
  | d + 1, f, args, H => match fnAt F f with
    | some fn => match fn.body with
      | some c => match evC T (evF T F K d) K c ⟨appL args (List.replicate (fn.ntmps - args.length) (.c .un)), H⟩ with
        | some (.exit _, _) => none
        | some (_, s) => (res T fn s).map fun v => (v, s.H)
        | none => none
      | none => none
    | none => none
end Go.Proofs.Ytgfeohklkinccaa.Pe
