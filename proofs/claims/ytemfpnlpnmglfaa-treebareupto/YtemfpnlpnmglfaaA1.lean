/- AN ABSTRACT MACHINE for the model's code: plain tree values in the place of memory (slices are lists; a pointer to constant memory holds what it points to), mutable variables by number, no capacities, no drawn orders. What it computes is shown to be what the model's machine computes in the later texts (A2 ..). -/
import GoSem.Step
import GoSem.Dispatch
set_option linter.unusedVariables false
set_option linter.unusedSimpArgs false
namespace Go.Am
open Go

inductive AV where
  | bool (b : Bool)
  | int (k : IntKind) (n : Int)
  | str (s : List UInt8)
  | agg (l : List AV)
  | tup (l : List AV)
  | nils
  | sl (l : List AV)
  | nilp
  | cp (l : List AV)
  | vp (loc off : Nat)
  | nilf
  | fn (f : FuncId) (caps : List AV)
  | yld (loc : Nat)
  | nilm
  | mp (loc : Nat)
  | nili
  | ifc (t : TypeId) (v : AV)
  deriving Inhabited

def AV.cells : AV → List AV
  | .agg l => l
  | v => [v]

def AV.isTup : AV → Bool
  | .tup _ => true
  | _ => false

/-- What stands in a temporary or in a cell of a variable: a value; a slice that may be appended to in place ('own', with the number of its token, or 'full': no room behind it); 'und': anything; 'no': the mark of an operation that was not carried out. -/
inductive Slot where
  | und
  | no
  | val (v : AV)
  | own (k : Nat) (e : TypeId) (l : List AV)
  | full (l : List AV)
  deriving Inhabited

/-- A temporary's entry: such a slot; a variable in memory that is the activation's own; a pointer into such a one (good where 'w'). -/
inductive Ent where
  | none
  | s (v : Slot)
  | var (cells : List Slot)
  | ptr (w : Bool) (d off : Nat)
  deriving Inhabited

abbrev Env := List (Nat × Ent)

def Env.get : Env → Nat → Ent
  | [], _ => .none
  | (j, s) :: r, i => bif Nat.beq j i then s else Env.get r i

def Ent.slot : Ent → Slot
  | .s v => v
  | _ => .und

inductive AExit where
  | normal
  | exit (id : Nat)
  | ret

inductive LSt where
  | ready | busy | done | exhausted

inductive Obj where
  | var (cells : List Slot)
  | map (es : List (AV × AV × Nat)) (clock : Nat)
  | loop (st : LSt) (pend : Option AExit) (f : FuncId) (env : Env) (ps : List Nat) (asg body : Code)
  | dead

structure St where
  locs : List Obj
  toks : List Nat

def St.addLoc (s : St) (o : Obj) : St := { s with locs := s.locs ++ [o] }

inductive Out where
  | ret (v : Slot)
  | pan (v : AV)

abbrev Res := Option (Out × St)

inductive TK where
  | bad | bool | int (k : IntKind) | str | ptr
  | slice (e : TypeId)
  | struct (fs : List (Nat × TypeId))
  | array (n : Nat) (e : TypeId)
  | map (k e : TypeId)
  | func | iface
  deriving Inhabited, DecidableEq

/-- What the machine knows of a type: its kind, how many cells and bytes its values take, its zero cells, may '==' be asked of its structs cell by cell. -/
structure TI where
  k : TK := .bad
  size : Nat := 0
  bytes : Nat := 0
  zero : List AV := []
  flat : List TK := []
  deriving Inhabited

def TI.isAgg (t : TI) : Bool := match t.k with | .struct _ | .array _ _ => true | _ => false

/-- How a variable that is made in memory is held: of the activation's own; constant; shared. -/
inductive AMode where
  | var | con | loc

inductive Callee where
  | f (f : FuncId)
  | y (loc : Nat)

abbrev CallFn := Callee → List AV → St → Res

structure Cfg where
  ti : TypeId → TI
  mode : FuncId → Tmp → AMode
  keep : FuncId → Nat → List Nat
  cut : FuncId → Nat → Option (List Nat)
  draws : FuncId → Nat → Bool × List (Option Nat)
  ranks : FuncId → Nat → List Nat
  glob : Nat → Option (List AV)
  ints : List Nat
  ext : FuncId → Option (List AV → Option AV)
  code : FuncId → Option Func

def Slot.av : Slot → Option AV
  | .val v => some v
  | .own _ _ l => some (.sl l)
  | .full l => some (.sl l)
  | _ => none

def Slot.bool? : Slot → Option Bool
  | .val (.bool b) => some b
  | _ => none

def Slot.int? : Slot → Option Int
  | .val (.int _ n) => some n
  | _ => none

/-- the elements of a slice, nil or not -/
def Slot.list? : Slot → Option (List AV)
  | .val .nils => some []
  | .val (.sl l) => some l
  | .own _ _ l => some l
  | .full l => some l
  | _ => none

def avs : List Slot → Option (List AV)
  | [] => some []
  | s :: r => match s.av with
    | some v => match avs r with
      | some l => some (v :: l)
      | none => none
    | none => none

def avOf : Value → Option AV
  | .bool b => some (.bool b)
  | .int k n => some (.int k n)
  | .string s => some (.str s.data.toList)
  | .slice none 0 0 => some .nils
  | .pointer none => some .nilp
  | .nilFunc => some .nilf
  | .nilIface => some .nili
  | .map none => some .nilm
  | _ => none

def opnd (C : Cfg) (e : Env) : Operand → Slot
  | .tmp t => (e.get t).slot
  | .const v => match avOf v with | some a => .val a | none => .und
  | .global g => match C.glob g with | some l => .val (.cp l) | none => .und
  | .func f => .val (.fn f [])

def ent (C : Cfg) (e : Env) : Operand → Ent
  | .tmp t => e.get t
  | x => .s (opnd C e x)

/-! ### the pure operations -/

def AV.eqb : AV → AV → Option Bool
  | .bool a, .bool b => some (a == b)
  | .int k a, .int j b => if k = j then some (a == b) else none
  | .str a, .str b => some (a == b)
  | _, _ => none

/-- is it a value of this plain kind? -/
def TK.has (k : TK) (v : AV) : Bool :=
  match k, v with
  | .int k, .int j _ => decide (k = j)
  | .str, .str _ => true
  | .bool, .bool _ => true
  | _, _ => false

def eqAll : List TK → List AV → List AV → Option Bool
  | [], [], [] => some true
  | k :: ks, x :: xs, y :: ys => bif k.has x && k.has y then (match x.eqb y with
    | some true => eqAll ks xs ys
    | some false => some false
    | none => none) else none
  | _, _, _ => none

/-- '==' of two values of a type -/
def eqS (t : TI) (x y : AV) : Option Bool :=
  match t.k, x, y with
  | .bool, .bool a, .bool b => some (a == b)
  | .ptr, .nilp, .nilp => some true
  | .ptr, .nilp, .cp _ | .ptr, .cp _, .nilp | .ptr, .nilp, .vp _ _ | .ptr, .vp _ _, .nilp => some false
  | .slice _, .nils, .nils => some true
  | .slice _, .nils, .sl _ | .slice _, .sl _, .nils => some false
  | .func, .nilf, .nilf => some true
  | .func, .nilf, .fn _ _ | .func, .fn _ _, .nilf | .func, .nilf, .yld _ | .func, .yld _, .nilf => some false
  | .map _ _, .nilm, .nilm => some true
  | .map _ _, .nilm, .mp _ | .map _ _, .mp _, .nilm => some false
  | .iface, .nili, .ifc _ _ | .iface, .ifc _ _, .nili => some false
  | .struct _, .agg xs, .agg ys => bif t.flat.isEmpty then none else eqAll t.flat xs ys
  | _, _, _ => none

def binS (t : TI) (op : BinOp) (x y : Slot) : Option Slot :=
  match x.av, y.av with
  | some (.int k a), some (.int j b) =>
    match op with
    | .shl => if b < 0 then none else some (.val (.int k (k.wrap (a * 2 ^ (min b.toNat k.bits)))))
    | .shr => if b < 0 then none else some (.val (.int k (a.fdiv (2 ^ (min b.toNat k.bits)))))
    | _ =>
      if k = j then
        match op with
        | .add => some (.val (.int k (k.wrap (a + b))))
        | .sub => some (.val (.int k (k.wrap (a - b))))
        | .mul => some (.val (.int k (k.wrap (a * b))))
        | .quo => if b = 0 then none else some (.val (.int k (k.wrap (a.tdiv b))))
        | .rem => if b = 0 then none else some (.val (.int k (a.tmod b)))
        | .eql => some (.val (.bool (a == b)))
        | .neq => some (.val (.bool (a != b)))
        | .lss => some (.val (.bool (a < b)))
        | .leq => some (.val (.bool (a ≤ b)))
        | .gtr => some (.val (.bool (a > b)))
        | .geq => some (.val (.bool (a ≥ b)))
        | _ => none
      else none
  | some (.str a), some (.str b) =>
    match op with
    | .add => if a.length + b.length ≤ 9223372036854775807 then some (.val (.str (a ++ b))) else none
    | .eql => some (.val (.bool (a == b)))
    | .neq => some (.val (.bool !(a == b)))
    | .lss => some (.val (.bool (Op.bytesLess a b)))
    | .leq => some (.val (.bool (Op.bytesLess a b || a == b)))
    | .gtr => some (.val (.bool !(Op.bytesLess a b || a == b)))
    | .geq => some (.val (.bool !(Op.bytesLess a b)))
    | _ => none
  | some a, some b =>
    match op with
    | .eql => (eqS t a b).map fun r => .val (.bool r)
    | .neq => (eqS t a b).map fun r => .val (.bool !r)
    | _ => none
  | _, _ => none

def unS (op : UnOp) (x : Slot) : Option Slot :=
  match op, x with
  | .neg, .val (.int k n) => some (.val (.int k (k.wrap (0 - n))))
  | .not, .val (.bool b) => some (.val (.bool !b))
  | _, _ => none

def pickS (c a b : Slot) : Option Slot :=
  match c with
  | .val (.bool t) => some (bif t then a else b)
  | _ => none

def convS (s d : TI) (x : Slot) : Option Slot :=
  match d.k, x with
  | .int k, .val (.int _ n) => match s.k with | .bad => none | _ => some (.val (.int k (k.wrap n)))
  | .str, .val (.str l) => match s.k with | .str => some (.val (.str l)) | _ => none
  | _, _ => none

def setAt (l : List AV) (off : Nat) (cs : List AV) : Option (List AV) :=
  if off + cs.length ≤ l.length then some (l.take off ++ (cs ++ l.drop (off + cs.length))) else none

/-- the parts of a struct or an array, each where it belongs: (offset, cells) -/
def fillS : List AV → List (Nat × Nat × Slot) → Option (List AV)
  | l, [] => some l
  | l, (off, size, x) :: r => match x.av with
    | some v => if v.cells.length = size ∧ v.isTup = false then (match setAt l off v.cells with | some l' => fillS l' r | none => none) else none
    | none => none

def buildS (zero : List AV) (ps : List (Nat × Nat × Slot)) : Option Slot :=
  match fillS zero ps with
  | some l => some (.val (.agg l))
  | none => none

/-- the elements of a slice that is written out: all of them, in order -/
def bslS (size : Nat) : List Slot → Option (List AV)
  | [] => some []
  | x :: r => match x.av with
    | some v => if v.cells.length = size ∧ v.isTup = false then (match bslS size r with | some l => some (v :: l) | none => none) else none
    | none => none

def bslF (size : Nat) (xs : List Slot) : Option Slot :=
  match bslS size xs with
  | some l => some (.full l)
  | none => none

def fnS (f : FuncId) (xs : List Slot) : Option Slot :=
  match avs xs with
  | some l => some (.val (.fn f l))
  | none => none

def inOrder : Nat → List (Nat × Operand) → Bool
  | _, [] => true
  | n, (i, _) :: r => Nat.beq i n && inOrder (n + 1) r

def extractS (x : Slot) (i : Nat) : Option Slot :=
  match x with
  | .val (.tup l) => match l[i]? with | some v => some (.val v) | none => none
  | _ => none

def ofCells (t : TI) (cs : List AV) : Option AV :=
  bif t.isAgg then (if cs.length = t.size then some (.agg cs) else none)
  else match cs with | [v] => some v | _ => none

def fieldS (t : TI) (ft : TI) (off : Nat) (x : Slot) : Option Slot :=
  match x with
  | .val (.agg l) => if 0 < ft.size then (match ofCells ft ((l.drop off).take ft.size) with | some v => some (.val v) | none => none) else none
  | _ => none

/-- the address of a field, from a pointer's value -/
def faV (off : Nat) (s : Slot) : Option Slot :=
  match s with
  | .val (.cp l) => some (.val (.cp (l.drop off)))
  | .val (.vp loc o) => some (.val (.vp loc (o + off)))
  | _ => none

/-- the address of an element: of a slice -/
def ixS (size : Nat) (s i : Slot) : Option Slot :=
  match s.list?, i with
  | some l, .val (.int _ n) =>
    if 0 ≤ n ∧ n < (l.length : Int) then
      match l[n.toNat]? with
      | some v => if v.cells.length = size ∧ 0 < size then some (.val (.cp v.cells)) else none
      | none => none
    else none
  | _, _ => none

/-- .. of an array behind a pointer -/
def ixA (n size : Nat) (s i : Slot) : Option Slot :=
  match i with
  | .val (.int _ j) => if (0 ≤ j ∧ j < (n : Int)) ∧ 0 < size then faV (j.toNat * size) s else none
  | _ => none

def indexS (t et : TI) (x i : Slot) : Option Slot :=
  match i with
  | .val (.int _ n) => match t.k with
    | .str => (match x with
      | .val (.str l) => if 0 ≤ n then (match l[n.toNat]? with | some b => some (.val (.int .u8 b.toNat)) | none => none) else none
      | _ => none)
    | .array len _ => (match x with
      | .val (.agg l) => if (0 ≤ n ∧ n < (len : Int)) ∧ 0 < et.size then (match ofCells et ((l.drop (n.toNat * et.size)).take et.size) with | some v => some (.val v) | none => none) else none
      | _ => none)
    | _ => none
  | _ => none

def bound (x : Option Slot) (dflt most : Nat) : Option Nat :=
  match x with
  | none => some dflt
  | some (.val (.int _ n)) => if 0 ≤ n ∧ n ≤ (most : Int) then some n.toNat else none
  | _ => none

def sliceS (t : TI) (sz : Nat) (x : Slot) (lo hi mx : Option Slot) : Option Slot :=
  match t.k with
  | .str => (match x with
    | .val (.str l) => match mx with
      | some _ => none
      | none => match bound hi l.length l.length with
        | some h => match bound lo 0 h with
          | some a => some (.val (.str ((l.take h).drop a)))
          | none => none
        | none => none
    | _ => none)
  | .slice _ => (match x with
    | .val .nils => match mx with
      | some _ => none
      | none => match bound hi 0 0 with
        | some _ => match bound lo 0 0 with
          | some _ => some (.val .nils)
          | none => none
        | none => none
    | x => match x.list? with
      | some l => bif l.all (fun v => v.cells.length == sz) && Nat.blt 0 sz then (match mx with
        | none => match bound hi l.length l.length with
          | some h => match bound lo 0 h with
            | some a => some (.val (.sl ((l.take h).drop a)))
            | none => none
          | none => none
        | some m => match bound (some m) 0 l.length with
          | some c => match hi with
            | some h => match bound (some h) 0 c with
              | some h' => match bound lo 0 h' with
                | some a => bif Nat.beq h' c then some (.full ((l.take h').drop a)) else some (.val (.sl ((l.take h').drop a)))
                | none => none
              | none => none
            | none => none
          | none => none) else none
      | none => none)
  | _ => none

/-- a list of cells, cut into rows -/
def rows (t : TI) : Nat → List AV → Option (List AV)
  | 0, _ => some []
  | n + 1, cs => match ofCells t (cs.take t.size) with
    | some v => match rows t n (cs.drop t.size) with | some l => some (v :: l) | none => none
    | none => none

/-- 'a[:]' of an array behind a pointer to constant memory -/
def sliceA (n : Nat) (et : TI) (x : Slot) (lo hi mx : Option Slot) : Option Slot :=
  match x with
  | .val (.cp cs) => bif Nat.beq et.size 0 then none else match mx with
    | some _ => none
    | none => match bound hi n n with
      | some h => match bound lo 0 h with
        | some a => match rows et n cs with
          | some l => some (.val (.sl ((l.take h).drop a)))
          | none => none
        | none => none
      | none => none
  | _ => none

def lenS (t : TI) (x : Slot) : Option Slot :=
  match t.k with
  | .str => (match x with | .val (.str l) => some (.val (.int .i64 l.length)) | _ => none)
  | .slice _ => (match x.list? with | some l => some (.val (.int .i64 l.length)) | none => none)
  | _ => none

def lenM (s : St) (x : Slot) : Option Slot :=
  match x with
  | .val .nilm => some (.val (.int .i64 0))
  | .val (.mp loc) => match s.locs[loc]? with
    | some (.map es _) => some (.val (.int .i64 es.length))
    | _ => none
  | _ => none

def max2 (x y : Slot) : Option Slot :=
  match x, y with
  | .val (.int k a), .val (.int _ b) => some (.val (.int k (if b > a then b else a)))
  | _, _ => none
def max3 (x y z : Slot) : Option Slot :=
  match max2 x y with
  | some v => max2 v z
  | none => none
def min2 (x y : Slot) : Option Slot :=
  match x, y with
  | .val (.int k a), .val (.int _ b) => some (.val (.int k (if b < a then b else a)))
  | _, _ => none

def ifcS (t : TypeId) (x : Slot) : Option Slot :=
  match x.av with
  | some v => some (.val (.ifc t v))
  | none => none

/-! ### memory -/

/-- what may stand in a cell -/
def Slot.cellOk : Slot → Bool
  | .und | .no => false
  | .val v => match v with | .tup _ | .agg _ => false | _ => true
  | _ => true

def TI.isGood (t : TI) : Bool := match t.k with | .bad => false | _ => true

def boxCells (t : TI) (x : Slot) : Option (List Slot) :=
  bif t.isAgg then (match x with | .val (.agg l) => if l.length = t.size then some (l.map .val) else none | _ => none)
  else bif x.cellOk && t.isGood then some [x] else none

def ofSlots (t : TI) (cs : List Slot) : Option Slot :=
  bif t.isAgg then (match avs cs with | some l => if l.length = t.size then some (.val (.agg l)) else none | none => none)
  else match cs with | [s] => some s | _ => none

/-- what is read at an address; 'r': variables that are shared may not be read here -/
def ldV (t : TI) (r : Bool) (s : St) (a : Slot) : Option Slot :=
  match a with
  | .val (.cp l) => match ofCells t (l.take t.size) with | some v => some (.val v) | none => none
  | .val (.vp loc off) => bif r then none else match s.locs[loc]? with
    | some (.var cs) => ofSlots t ((cs.drop off).take t.size)
    | _ => none
  | _ => none

/-- In a region that draws its order each operation that reads or writes memory says ahead whose variable it touches. -/
inductive Root where
  | free
  | no
  | d (n : Nat)

def rootOk (rt : Root) (x : Option Nat) (a : Ent) : Bool :=
  match rt with
  | .free => true
  | .no => match a with | .s _ => true | _ => false
  | .d n => match a with
    | .var _ => match x with | some i => Nat.beq i n | none => false
    | .ptr _ i _ => Nat.beq i n
    | _ => false

def ldS (t : TI) (r : Bool) (rt : Root) (x : Option Nat) (e : Env) (s : St) (a : Ent) : Option Slot :=
  bif rootOk rt x a then (match a with
  | .var cs => ofSlots t (cs.take t.size)
  | .ptr w d off => match e.get d with
    | .var cs => bif w then ofSlots t ((cs.drop off).take t.size) else none
    | _ => none
  | .s v => ldV t r s v
  | .none => none) else none

def putAt (l : List Slot) (off : Nat) (cs : List Slot) : Option (List Slot) :=
  if off + cs.length ≤ l.length then some (l.take off ++ (cs ++ l.drop (off + cs.length))) else none

def bindL (r : Option (List Slot)) (k : List Slot → Res) : Res :=
  match r with
  | some l => k l
  | none => none

def bindA (r : Option (List AV)) (k : List AV → Res) : Res :=
  match r with
  | some l => k l
  | none => none

def bindS (r : Option St) (k : St → Res) : Res :=
  match r with
  | some s => k s
  | none => none

/-- a store through a pointer's value -/
def stV (s : St) (a : Slot) (cs : List Slot) : Option St :=
  match a with
  | .val (.vp loc off) => match s.locs[loc]? with
    | some (.var l) => match putAt l off cs with | some l' => some { s with locs := s.locs.set loc (.var l') } | none => none
    | _ => none
  | _ => none

def stS (rt : Root) (x : Option Nat) (e : Env) (s : St) (a : Ent) (cs : List Slot) (k : Env → St → Res) : Res :=
  bif rootOk rt x a then (match a with
  | .var l => match x with
    | some d => bindL (putAt l 0 cs) fun l' => k ((d, .var l') :: e) s
    | none => none
  | .ptr w d off => match e.get d with
    | .var l => bindL (bif w then putAt l off cs else none) fun l' => k ((d, .var l') :: e) s
    | _ => none
  | .s v => bindS (stV s v cs) fun s => k e s
  | .none => none) else none

/-- a new variable: which entry holds it, and the state -/
def newS (m : AMode) (cs : List Slot) (old : Ent) (s : St) (k : Ent → St → Res) : Res :=
  match m with
  | .var => match old with | .none => k (.var cs) s | _ => none
  | .con => bindA (avs cs) fun l => k (.s (.val (.cp l))) s
  | .loc => k (.s (.val (.vp s.locs.length 0))) (s.addLoc (.var cs))

def okSz (size : Nat) (l : List AV) : Bool := l.all (fun v => v.cells.length == size) && Nat.blt 0 size

def appendS (et : TypeId) (t : TI) (s : St) (x y : Slot) : Option (Slot × St) :=
  match y.list? with
  | some [] => match x.list? with | some _ => some (x, s) | none => none
  | some ys =>
    bif okSz t.size ys then
      (match x with
      | .own k e l => bif okSz t.size l then
        (if e = et ∧ s.toks[k]? = some l.length ∧ (l.length + ys.length) * t.bytes ≤ 140737488355328 ∧ l.length + ys.length ≤ 9223372036854775807 then
          some (.own k e (l ++ ys), { s with toks := s.toks.set k (l.length + ys.length) })
        else none) else none
      | .full l => bif okSz t.size l then
        (if (l.length + ys.length) * t.bytes ≤ 140737488355328 ∧ l.length + ys.length ≤ 9223372036854775807 then
          some (.own s.toks.length et (l ++ ys), { s with toks := s.toks ++ [l.length + ys.length] })
        else none) else none
      | .val .nils =>
        if ys.length * t.bytes ≤ 140737488355328 ∧ ys.length ≤ 9223372036854775807 then
          some (.own s.toks.length et ys, { s with toks := s.toks ++ [ys.length] })
        else none
      | _ => none)
    else none
  | none => none

/-! ### maps -/

def AV.keyEq : AV → AV → Option Bool
  | .int k a, .int j b => if k = j then some (a == b) else none
  | .str a, .str b => some (a == b)
  | .bool a, .bool b => some (a == b)
  | _, _ => none

def findE (key : AV) : List (AV × AV × Nat) → Nat → Option (Option (Nat × AV × Nat))
  | [], _ => some none
  | (k, v, b) :: r, i => match key.keyEq k with
    | some true => some (some (i, v, b))
    | some false => findE key r (i + 1)
    | none => none

def isKey (t : TI) (v : AV) : Bool := t.k.has v

def lookupS (kt et : TI) (s : St) (x i : Slot) (ok : Bool) : Option Slot :=
  match i.av with
  | some key =>
    if isKey kt key then
      match (match x with
        | .val .nilm => some []
        | .val (.mp loc) => (match s.locs[loc]? with | some (.map es _) => some es | _ => none)
        | _ => none) with
      | some es => match findE key es 0 with
        | some (some (_, v, _)) => some (.val (bif ok then .tup [v, .bool true] else v))
        | some none => match ofCells et et.zero with
          | some z => some (.val (bif ok then .tup [z, .bool false] else z))
          | none => none
        | none => none
      | none => none
    else none
  | none => none

def updateS (kt et : TI) (s : St) (x i v : Slot) : Option St :=
  match x, i.av, v.av with
  | .val (.mp loc), some key, some y =>
    if isKey kt key ∧ y.cells.length = et.size then
      match s.locs[loc]? with
      | some (.map es c) => match findE key es 0 with
        | some (some (j, _, b)) => some { s with locs := s.locs.set loc (.map (es.set j (key, y, b)) c) }
        | some none => some { s with locs := s.locs.set loc (.map (es ++ [(key, y, c)]) (c + 1)) }
        | none => none
      | _ => none
    else none
  | _, _, _ => none

def entryS (kt et : TI) (s : St) (x i : Slot) : Option (Slot × St) :=
  match x, i.av with
  | .val (.mp loc), some key =>
    if isKey kt key then
      match s.locs[loc]? with
      | some (.map es c) => match findE key es 0 with
        | some (some (j, v, b)) => some (.val (.tup [v, .int .i64 b]), { s with locs := s.locs.set loc (.map (es.set j (key, v, b)) c) })
        | some none => match ofCells et et.zero with
          | some z => some (.val (.tup [z, .int .i64 c]), { s with locs := s.locs.set loc (.map (es ++ [(key, z, c)]) (c + 1)) })
          | none => none
        | none => none
      | _ => none
    else none
  | _, _ => none

def setBorn (n : Int) (y : AV) : List (AV × AV × Nat) → Option (List (AV × AV × Nat))
  | [] => none
  | (k, v, b) :: r => bif (b : Int) == n then some ((k, y, b) :: r) else (match setBorn n y r with | some l => some ((k, v, b) :: l) | none => none)

def entrySt (s : St) (x i v : Slot) : Option St :=
  match x, i, v.av with
  | .val (.mp loc), .val (.int _ n), some y =>
    match s.locs[loc]? with
    | some (.map es c) => match setBorn n y es with
      | some es' => some { s with locs := s.locs.set loc (.map es' c) }
      | none => none
    | _ => none
  | _, _, _ => none

/-! ### a region's operations -/

def Operand.tmp? : Operand → Option Nat
  | .tmp t => some t
  | _ => none

def structField (t : TI) (f : Nat) : Option (Nat × TypeId) :=
  match t.k with
  | .struct fs => fs[f]?
  | _ => none

/-- the parts with their places -/
def places (C : Cfg) (e : Env) (t : TI) : List (Nat × Operand) → Option (List (Nat × Nat × Slot))
  | [] => some []
  | (i, x) :: r =>
    match (match t.k with
      | .struct fs => (match fs[i]? with | some (off, ft) => some (off, (C.ti ft).size) | none => none)
      | .array _ et => some (i * (C.ti et).size, (C.ti et).size)
      | _ => none) with
    | some (off, size) => bif Nat.beq size 0 then none else match places C e t r with
      | some l => some ((off, size, opnd C e x) :: l)
      | none => none
    | none => none

def bind1 (r : Option Slot) (k : Slot → Res) : Res :=
  match r with
  | some v => k v
  | none => none

def bind2 (r : Option (Slot × St)) (k : Slot → St → Res) : Res :=
  match r with
  | some (v, s) => k v s
  | none => none

def bindB (r : Option Bool) (k : Bool → Res) : Res :=
  match r with
  | some b => k b
  | none => none

/-- an operation that is not carried out leaves the mark -/
def gd (b : Bool) (r : Option Slot) : Option Slot := bif b then r else some .no
def gdV (b : Bool) (v : Slot) : Slot := bif b then v else .no

def bldOk (C : Cfg) (t : TI) : Bool :=
  match t.k with
  | .struct _ => true
  | .array _ et => !(Nat.beq (C.ti et).size 0)
  | _ => false

/-- the operations that only compute a value of the temporaries' values -/
def pureS (C : Cfg) (e : Env) (op : Op) : Option Slot :=
  match op with
  | .pick c a b => pickS (opnd C e c) (opnd C e a) (opnd C e b)
  | .build t ps => bif bldOk C (C.ti t) then (match places C e (C.ti t) ps.toList with
    | some l => buildS (C.ti t).zero l
    | none => none) else none
  | .buildSlice t n ps => match (C.ti t).k with
    | .slice et => bif inOrder 0 ps.toList && Nat.beq ps.toList.length n && Nat.ble (n * (C.ti et).size) 16777216 && Nat.blt 0 (C.ti et).size then
        bslF (C.ti et).size (ps.toList.map fun p => opnd C e p.2)
      else none
    | _ => none
  | .binOp op t x y _ => binS (C.ti t) op (opnd C e x) (opnd C e y)
  | .unOp op _ x => unS op (opnd C e x)
  | .convert s d x => convS (C.ti s) (C.ti d) (opnd C e x)
  | .makeInterface t x => match (C.ti t).k with
    | .bad | .iface => none
    | _ => ifcS t (opnd C e x)
  | .call { callee := .builtin .len, args := as, argTypes := ts } => match as.toList, ts.toList with
    | [x], [t] => lenS (C.ti t) (opnd C e x)
    | _, _ => none
  | .call { callee := .builtin .max, args := as, argTypes := _ } => match as.toList with
    | [x, y] => max2 (opnd C e x) (opnd C e y)
    | [x, y, z] => max3 (opnd C e x) (opnd C e y) (opnd C e z)
    | _ => none
  | .call { callee := .builtin .min, args := as, argTypes := _ } => match as.toList with
    | [x, y] => min2 (opnd C e x) (opnd C e y)
    | _ => none
  | .makeFunc (.func f) first caps => bif first.isEmpty then fnS f (caps.toList.map (opnd C e)) else none
  | .slice t x lo hi mx => match (C.ti t).k with
    | .array n et => sliceA n (C.ti et) (opnd C e x) (lo.map (opnd C e)) (hi.map (opnd C e)) (mx.map (opnd C e))
    | .slice et => sliceS (C.ti t) (C.ti et).size (opnd C e x) (lo.map (opnd C e)) (hi.map (opnd C e)) (mx.map (opnd C e))
    | _ => sliceS (C.ti t) 0 (opnd C e x) (lo.map (opnd C e)) (hi.map (opnd C e)) (mx.map (opnd C e))
  | .field t x f => match structField (C.ti t) f with
    | some (off, ft) => fieldS (C.ti t) (C.ti ft) off (opnd C e x)
    | none => none
  | .indexAddr t x i => match (C.ti t).k with
    | .slice et => ixS (C.ti et).size (opnd C e x) (opnd C e i)
    | .array n et => ixA n (C.ti et).size (opnd C e x) (opnd C e i)
    | _ => none
  | .index t x i => indexS (C.ti t) (C.ti (match (C.ti t).k with | .array _ et => et | _ => 0)) (opnd C e x) (opnd C e i)
  | .extract x i => extractS (opnd C e x) i
  | _ => none

def nilCheckV (s : Slot) : Option Slot :=
  match s with
  | .val (.cp l) => some (.val (.cp l))
  | .val (.vp a b) => some (.val (.vp a b))
  | _ => none

/-- a pointer that was got where w' may be handed on where w -/
def chkP (w' w : Bool) (k : Unit → Res) : Res := bif w' || !w then k () else none

def faK (off : Nat) (w : Bool) (x : Option Nat) (a : Ent) (k : Ent → Res) : Res :=
  match a with
  | .var _ => match x with | some d => k (.ptr w d off) | none => none
  | .ptr w' d o => chkP w' w fun _ => k (.ptr (w' && w) d (o + off))
  | .s v => bind1 (gd w (faV off v)) fun v => k (.s v)
  | .none => none

/-- .. and those that may hand on a pointer into a variable of the activation's own; 'w': is it carried out? -/
def pureK (C : Cfg) (e : Env) (w : Bool) (op : Op) (k : Ent → Res) : Res :=
  match op with
  | .move x | .assign x => k (.s (gdV w (opnd C e x)))
  | .fieldAddr t x f => match structField (C.ti t) f with
    | some (off, ft) => bif Nat.beq (C.ti ft).size 0 then none else faK off w (Operand.tmp? x) (ent C e x) k
    | none => none
  | .nilCheck x => match ent C e x with
    | .ptr w' d o => chkP w' w fun _ => k (.ptr (w' && w) d o)
    | .s v => bind1 (gd w (nilCheckV v)) fun v => k (.s v)
    | _ => none
  | op => bind1 (gd w (pureS C e op)) fun v => k (.s v)

def isMap (t : TI) : Bool := match t.k with | .map _ _ => true | _ => false

def isPure (C : Cfg) : Op → Bool
  | .move _ | .assign _ | .pick .. | .build .. | .buildSlice .. | .nilCheck _ | .binOp .. | .unOp .. | .convert .. | .makeInterface .. | .makeFunc .. | .slice .. | .fieldAddr .. | .field .. | .indexAddr .. | .index .. | .extract .. => true
  | .call { callee := .builtin .len, args := _, argTypes := ts } => match ts.toList with | [t] => !(isMap (C.ti t)) | _ => false
  | .call { callee := .builtin .max, args := _, argTypes := _ } | .call { callee := .builtin .min, args := _, argTypes := _ } => true
  | _ => false

/-- what a guard says; 'none': it is not known -/
def Slot.isB (s : Slot) (want : Bool) : Option Bool :=
  match s with
  | .val (.bool b) => some (b == want)
  | .no => some false
  | _ => none

def wants (ops : List Oper) (e : Env) (g : Option (Nat × Bool)) : Option Bool :=
  match g with
  | none => some true
  | some (j, want) => match (match ops[j]? with | some o => o.dst | none => none) with
    | some d => (e.get d).slot.isB want
    | none => none

def put (dst : Option Tmp) (v : Ent) (e : Env) : Env :=
  match dst with
  | some d => (d, v) :: e
  | none => e

def noPan (r : Res) : Res :=
  match r with
  | some (.ret v, s) => some (.ret v, s)
  | _ => none

/-- how a call comes back into the region -/
def back (r : Res) (k : Slot → St → Res) : Res :=
  match r with
  | some (.ret v, s) => k v s
  | some (.pan v, s) => some (.pan v, s)
  | none => none

/-- whom a call is of -/
def tgtV (g : Slot) (args : List Slot) : Option (Callee × List AV) :=
  match avs args with
  | some l => match g with
    | .val (.fn f caps) => some (.f f, l ++ caps)
    | .val (.yld loc) => some (.y loc, l)
    | _ => none
  | none => none

def cal (cl : CallFn) (w : Bool) (t : Option (Callee × List AV)) (s : St) : Res :=
  bif w then (match t with | some (c, l) => cl c l s | none => none) else some (.ret .no, s)

def dstMode (C : Cfg) (f : FuncId) (o : Oper) : AMode := match o.dst with | some d => C.mode f d | none => .loc
def dstOld (e : Env) (o : Oper) : Ent := match o.dst with | some d => e.get d | none => .none

def makeS (et : TypeId) (t : TI) (s : St) (l c : Slot) : Option (Slot × St) :=
  match l, c with
  | .val (.int .i64 a), .val (.int .i64 b) =>
    if 0 ≤ a ∧ a ≤ b ∧ b * t.bytes ≤ 140737488355328 ∧ 0 < t.size ∧ b ≤ 9223372036854775807 then
      (match ofCells t t.zero with
      | some z => some (.own s.toks.length et (List.replicate a.toNat z), { s with toks := s.toks ++ [a.toNat] })
      | none => none)
    else none
  | _, _ => none

/-- the operations that only read the state: 'r': shared state may not be read -/
def readS (C : Cfg) (r : Bool) (rt : Root) (e : Env) (s : St) (op : Op) : Option Slot :=
  match op with
  | .load t a => ldS (C.ti t) r rt (Operand.tmp? a) e s (ent C e a)
  | _ => none

def isRead : Op → Bool
  | .load .. | .lookup .. => true
  | .call { callee := .builtin .len, args := _, argTypes := _ } => true
  | _ => false

def panK (x : Slot) (s : St) : Res :=
  match x with
  | .val (.ifc t v) => some (.pan (.ifc t v), s)
  | _ => none

/-- the operations that turn the state; calls; the one that panics -/
def effK (C : Cfg) (cl : CallFn) (dr : Bool) (f : FuncId) (o : Oper) (rt : Root) (w : Bool) (e : Env) (s : St) (k : Ent → Env → St → Res) : Res :=
  match o.op with
  | .call { callee := .value g, args := as, argTypes := _ } => back (bif dr then noPan (cal cl w (tgtV (opnd C e g) (as.toList.map (opnd C e))) s) else cal cl w (tgtV (opnd C e g) (as.toList.map (opnd C e))) s) (fun v s => k (.s v) e s)
  | op => bif w then (match op with
    | .alloc t => bif (C.ti t).isGood then newS (dstMode C f o) ((C.ti t).zero.map .val) (dstOld e o) s (fun v s => k v e s) else none
    | .box t x => bindL (boxCells (C.ti t) (opnd C e x)) fun cs => newS (dstMode C f o) cs (dstOld e o) s (fun v s => k v e s)
    | .store t a x => bindL (boxCells (C.ti t) (opnd C e x)) fun cs => stS rt (Operand.tmp? a) e s (ent C e a) cs (fun e s => k (.s .no) e s)
    | .makeSlice t l c => match (C.ti t).k with
      | .slice et => bind2 (makeS et (C.ti et) s (opnd C e l) (opnd C e c)) (fun v s => k (.s v) e s)
      | _ => none
    | .panic x => bif dr then none else panK (opnd C e x) s
    | .call { callee := .builtin .append, args := as, argTypes := ts } => match as.toList, ts.toList with
      | [x, y], [t, u] => match (C.ti t).k, Nat.beq t u with
        | .slice et, true => bind2 (appendS et (C.ti et) s (opnd C e x) (opnd C e y)) (fun v s => k (.s v) e s)
        | _, _ => none
      | _, _ => none
    | _ => none) else k (.s .no) e s

/-! ### code -/

abbrev K := AExit → Env → St → Res

def rootOf (dr : Bool) (rts : List (Option Nat)) : Root :=
  bif dr then (match rts with | some n :: _ => .d n | _ => .no) else .free

def opsK (C : Cfg) (cl : CallFn) (dr r : Bool) (f : FuncId) (all : List Oper) : List Oper → List (Option Nat) → Env → St → (Env → St → Res) → Res
  | [], _, e, s, k => k e s
  | o :: os, rts, e, s, k => bindB (wants all e o.guard) fun w =>
      bif isPure C o.op then pureK C e w o.op (fun v => opsK C cl dr r f all os rts.tail (put o.dst v e) s k)
      else bif isRead o.op then bind1 (gd w (readS C r (rootOf dr rts) e s o.op)) (fun v => opsK C cl dr r f all os rts.tail (put o.dst (.s v) e) s k)
      else effK C cl dr f o (rootOf dr rts) w e s (fun v e s => opsK C cl dr r f all os rts.tail (put o.dst v e) s k)

def keepS : Ent → Ent
  | .ptr _ _ _ => .none
  | s => s

def stripS : Ent → Ent
  | .s v => .s v
  | _ => .none

def keepE (ks : List Nat) (e : Env) : Env := ks.map fun i => (i, keepS (e.get i))
def stripE (ks : List Nat) (e : Env) : Env := ks.map fun i => (i, stripS (e.get i))

/-- the number of the first region of a piece of code, and one; 0: it has none: the piece's name -/
def regionOf : Code → Nat
  | .region id _ _ => id + 1
  | .seq a b => bif Nat.beq (regionOf a) 0 then regionOf b else regionOf a
  | .block _ b => regionOf b
  | .loop b => regionOf b
  | .scope b => regionOf b
  | .cond _ a b => bif Nat.beq (regionOf a) 0 then regionOf b else regionOf a
  | .rangeFunc _ _ a b => bif Nat.beq (regionOf a) 0 then regionOf b else regionOf a
  | _ => 0

def loopN (body : Env → St → K → Res) (ks : List Nat) : Nat → Env → St → K → Res
  | 0, _, _, _ => none
  | n + 1, e, s, k => body e s (fun x e s => match x with
    | .normal => loopN body ks n (keepE ks e) s k
    | x => k x e s)

def loopK (body : Env → St → K → Res) (ks : List Nat) (n : Nat) (e : Env) (s : St) (k : K) : Res := loopN body ks n (keepE ks e) s k

/-- a gate that opens with fuel: what stands behind it is not looked into as long as the fuel is a variable -/
def gate : Nat → Bool
  | 0 => false
  | _ + 1 => true

/-- where ways meet again: what is still wanted is kept -/
def cutN (g : Bool) (body : Env → St → K → Res) (e : Env) (s : St) (k : K) : Res := bif g then body e s k else none

def cutK (g : Bool) (ks : Option (List Nat)) (body : Env → St → K → Res) (e : Env) (s : St) (k : K) : Res :=
  match ks with
  | some l => cutN g body (keepE l e) s k
  | none => body e s k

def condS (c : Slot) (a b : Res) : Res :=
  match c.bool? with
  | some t => bif t then a else b
  | none => none

def setLoop (loc : Nat) (st : LSt) (pend : Option AExit) (s : St) : Option St :=
  match s.locs[loc]? with
  | some (.loop _ _ f e ps a b) => some { s with locs := s.locs.set loc (.loop st pend f e ps a b) }
  | _ => none

def pendX (p : Option AExit) (kn kr : St → Res) (ke : Nat → St → Res) (s : St) : Res :=
  match p with
  | none => kn s
  | some .normal => kn s
  | some .ret => kr s
  | some (.exit j) => ke j s

def pendK (p : Option AExit) (k : K) (e : Env) (s : St) : Res := pendX p (fun s => k .normal e s) (fun s => k .ret e s) (fun j s => k (.exit j) e s) s

theorem pendK_some (x : AExit) (k : K) (e : Env) (s : St) : pendK (some x) k e s = k x e s := by cases x <;> rfl

/-- behind a range over a function: the jump that is pending -/
def endX (loc : Nat) (s : St) (kn kr : St → Res) (ke : Nat → St → Res) : Res :=
  match s.locs[loc]? with
  | some (.loop st pend _ _ _ _ _) => match st with
    | .busy => none
    | _ => bindS (setLoop loc .exhausted pend s) (fun s => pendX pend kn kr ke s)
  | _ => none

def endK (loc : Nat) (e : Env) (s : St) (k : K) : Res := endX loc s (fun s => k .normal e s) (fun s => k .ret e s) (fun j s => k (.exit j) e s)

def exec (C : Cfg) (cl : CallFn) (m : Nat) (g : Bool) (rd : Bool) (f : FuncId) : Code → Env → St → K → Res
  | .skip, e, s, k => k .normal e s
  | .region id ops draw, e, s, k => opsK C cl draw (bif draw then (C.draws f id).1 else false) f ops.toList ops.toList (C.draws f id).2 e s (fun e s => k .normal e s)
  | .seq a b, e, s, k => exec C cl m g rd f a e s (fun x e s => match x with
    | .normal => cutK g (C.cut f (regionOf b)) (fun e s k => exec C cl m g rd f b e s k) e s k
    | x => k x e s)
  | .cond c a b, e, s, k => condS (opnd C e c) (exec C cl m g rd f a e s k) (exec C cl m g rd f b e s k)
  | .block id b, e, s, k => exec C cl m g rd f b e s (fun x e s => match x with
    | .exit j => bif Nat.beq j id then k .normal e s else k (.exit j) e s
    | x => k x e s)
  | .loop b, e, s, k => loopK (fun e s k => exec C cl m g rd f b e s k) (C.keep f (regionOf b)) m e s k
  | .exit id, e, s, k => k (.exit id) e s
  | .scope b, e, s, k => exec C cl m g rd f b e s k
  | .label _, e, s, k => k .normal e s
  | .ret, e, s, k => k .ret e s
  | .rangeFunc h ps asg body, e, s, k => bif rd then none else match tgtV (opnd C e h) [] with
    | some (.f g, l) => bif (C.ext g).isSome then none else back (cl (.f g) (.yld s.locs.length :: l) (s.addLoc (.loop .ready none f (stripE (C.keep f (regionOf asg)) e) ps.toList asg body))) (fun _ s1 => endK s.locs.length e s1 k)
    | _ => none
  | _, _, _, _ => none

def resVar (C : Cfg) (e : Env) (s : St) : ResultVar → Option Slot
  | .tmp t => some (e.get t).slot
  | .cell a t => ldS (C.ti t) false .free none e s (e.get a)

def avsO : List (Option Slot) → Option (List AV)
  | [] => some []
  | r :: rs => match r with
    | some v => match v.av with
      | some a => match avsO rs with | some l => some (a :: l) | none => none
      | none => none
    | none => none

def tupS (rs : List (Option Slot)) : Option Slot :=
  match avsO rs with
  | some l => some (.val (.tup l))
  | none => none

def resS (C : Cfg) (e : Env) (s : St) (rs : List ResultVar) : Option Slot :=
  match rs with
  | [r] => resVar C e s r
  | rs => tupS (rs.map (resVar C e s))

def argE : Nat → List AV → Env
  | _, [] => []
  | n, a :: r => (n, .s (.val a)) :: argE (n + 1) r

def setPs : List Nat → List AV → Env → Option Env
  | [], [], e => some e
  | p :: ps, a :: as, e => setPs ps as ((p, .s (.val a)) :: e)
  | _, _, _ => none

def outK (C : Cfg) (rs : List ResultVar) : K := fun x e s => match x with
  | .normal | .ret => bind1 (resS C e s rs) fun v => some (.ret v, s)
  | .exit _ => none

def beginL (loc : Nat) (s : St) : Option St :=
  match s.locs[loc]? with
  | some (.loop .ready p f e ps a b) => some { s with locs := s.locs.set loc (.loop .busy p f e ps a b) }
  | _ => none

/-- what a round gives back to yield's caller -/
def roundK (loc : Nat) : K := fun x _ s => match x with
  | .normal => bindS (setLoop loc .ready none s) (fun s => some (.ret (.val (.bool true)), s))
  | .ret => bindS (setLoop loc .done (some .ret) s) (fun s => some (.ret (.val (.bool false)), s))
  | .exit id => bindS (setLoop loc .done (some (.exit id)) s) (fun s => some (.ret (.val (.bool false)), s))

def call (C : Cfg) : Nat → CallFn
  | 0, _, _, _ => none
  | n + 1, .f f, args, s => match C.ext f with
    | some g => (match g args with | some v => some (.ret (.val v), s) | none => none)
    | none => match C.code f with
      | some fn => match fn.body with
        | some b => bif Nat.ble args.length fn.ntmps then exec C (call C n) n (gate n) false f b (argE 0 args) s (outK C fn.results.toList) else none
        | none => none
      | none => none
  | n + 1, .y loc, args, s => match s.locs[loc]? with
    | some (.loop .ready none f e ps asg body) => match setPs ps args e with
      | some e => noPan (exec C (call C n) n (gate n) true f asg e s (fun x e s => match x with
        | .normal => bindS (beginL loc s) (fun s => exec C (call C n) n (gate n) true f body e s (roundK loc))
        | _ => none))
      | none => none
    | _ => none


/-! ### what is asked of code ahead of all: that a drawn order makes no odds -/

def tmpsOf (o : Op) : List Nat := o.operands.toList.filterMap Operand.tmp?
def gtmp (all : List Oper) (g : Option (Nat × Bool)) : List Nat :=
  match g with
  | none => []
  | some (j, _) => match all[j]? with
    | some o => o.dst.toList
    | none => []

def isStore : Op → Bool
  | .store .. => true
  | _ => false

def AMode.isLoc : AMode → Bool
  | .loc => true
  | _ => false

def rdO (all : List Oper) (o : Oper) (rt : Option Nat) : List Nat := tmpsOf o.op ++ (gtmp all o.guard ++ (rt.toList ++ o.dst.toList))
def wrO (o : Oper) (rt : Option Nat) : List Nat := o.dst.toList ++ (bif isStore o.op then rt.toList else [])
/-- does it look at, or turn, what is shared? -/
def efO (C : Cfg) (r : Bool) (f : FuncId) (o : Oper) (rt : Option Nat) : Bool :=
  match o.op with
  | .load .. => !r && rt.isNone
  | .store .. => rt.isNone
  | .alloc _ | .box .. => (dstMode C f o).isLoc
  | op => !(isPure C op)

/-- does it turn what is shared? -/
def weO (C : Cfg) (r : Bool) (f : FuncId) (o : Oper) (rt : Option Nat) : Bool := efO C r f o rt && !(isRead o.op)

def disj (a b : List Nat) : Bool := a.all fun i => b.all fun j => !(Nat.beq i j)

def comm (C : Cfg) (r : Bool) (f : FuncId) (all : List Oper) (y x : Oper × Option Nat) : Bool :=
  disj (wrO y.1 y.2) (rdO all x.1 x.2) && (disj (wrO x.1 x.2) (rdO all y.1 y.2) && (disj (wrO y.1 y.2) (wrO x.1 x.2) && (!(weO C r f y.1 y.2 && efO C r f x.1 x.2) && !(efO C r f y.1 y.2 && weO C r f x.1 x.2))))

def mkL : Nat → List Oper → List (Option Nat) → List (Nat × (Oper × Option Nat))
  | _, [], _ => []
  | n, o :: os, rts => (n, (o, rts.headD none)) :: mkL (n + 1) os rts.tail

def bindsAll (e : Edge) : Bool :=
  match e.ground with
  | .textOnly _ | .gcOnly _ => false
  | _ => true

def addNew (l : List Nat) (i : Nat) : List Nat := bif l.any (Nat.beq i) then l else i :: l
def addAll (l m : List Nat) : List Nat := m.foldl addNew l

/-- whom each operation waits for, directly or not -/
def ancsGo : List (List Nat) → List Oper → List (List Nat)
  | acc, [] => acc
  | acc, o :: os => ancsGo (acc ++ [(o.after.toList.filter bindsAll).foldl (fun l e => addAll (addNew l e.on) (acc.getD e.on [])) []]) os

/-- an operation's rank, where the one mode's edges point forward too -/
def rkOf (rk : List Nat) (i : Nat) : Nat := rk.getD i i

def edgeOK (rk : List Nat) (n i : Nat) (e : Edge) : Bool := Nat.blt e.on n && (match e.ground with
  | .gcOnly _ => Nat.blt (rkOf rk e.on) (rkOf rk i)
  | .textOnly _ => Nat.blt e.on i
  | _ => Nat.blt e.on i && Nat.blt (rkOf rk e.on) (rkOf rk i))

def drawGo (C : Cfg) (r : Bool) (f : FuncId) (all : List Oper) (rk : List Nat) (n : Nat) (A : List (List Nat)) : List (Nat × (Oper × Option Nat)) → Bool
  | [] => true
  | p :: L => p.2.1.after.toList.all (edgeOK rk n p.1) && (L.all (fun q => (A.getD q.1 []).any (Nat.beq p.1) || comm C r f all p.2 q.2) && drawGo C r f all rk n A L)

/-- every operation waits for earlier ones alone; any two of them either wait or do not meddle -/
def drawOK (C : Cfg) (r : Bool) (f : FuncId) (all : List Oper) (rk : List Nat) (L : List (Nat × (Oper × Option Nat))) : Bool := drawGo C r f all rk all.length (ancsGo [] all) L

/-- what is asked of code ahead of all -/
def okCode (C : Cfg) (f : FuncId) (N : Nat) : Code → Bool
  | .region id ops draw => ops.toList.all (fun o => match o.dst with | some d => Nat.blt d N | none => true) && (!draw || drawOK C (C.draws f id).1 f ops.toList (C.ranks f id) (mkL 0 ops.toList (C.draws f id).2))
  | .seq a b => okCode C f N a && okCode C f N b
  | .cond _ a b => okCode C f N a && okCode C f N b
  | .block _ b => okCode C f N b
  | .loop b => okCode C f N b
  | .rangeFunc _ ps a b => ps.toList.all (fun p => Nat.blt p N) && (okCode C f N a && okCode C f N b)
  | .scope _ | .goto _ => false
  | _ => true

/-! ### a configuration by tables -/

def findMode (f d : Nat) : List (Nat × Nat × AMode) → AMode
  | [] => .var
  | (g, e, m) :: r => bif Nat.beq f g && Nat.beq d e then m else findMode f d r
def findKeep (f i : Nat) : List (Nat × Nat × List Nat) → List Nat
  | [] => []
  | (g, j, l) :: r => bif Nat.beq f g && Nat.beq i j then l else findKeep f i r
def findCut (f i : Nat) : List (Nat × Nat × List Nat) → Option (List Nat)
  | [] => none
  | (g, j, l) :: r => bif Nat.beq f g && Nat.beq i j then some l else findCut f i r
def findDraw (f i : Nat) : List (Nat × Nat × Bool × List (Option Nat)) → Bool × List (Option Nat)
  | [] => (false, [])
  | (g, j, x) :: r => bif Nat.beq f g && Nat.beq i j then x else findDraw f i r
def findExt (f : Nat) : List (Nat × (List AV → Option AV)) → Option (List AV → Option AV)
  | [] => none
  | (g, c) :: r => bif Nat.beq f g then some c else findExt f r
def findCode (f : Nat) : List (Nat × Func) → Option Func
  | [] => none
  | (g, c) :: r => bif Nat.beq f g then some c else findCode f r

/-! ### places in code, for the links -/

inductive Step where
  | seqL | seqR | thn | els | block | loop | scope

def codeAt : List Step → Code → Code
  | [], c => c
  | .seqL :: p, .seq a _ => codeAt p a
  | .seqR :: p, .seq _ b => codeAt p b
  | .thn :: p, .cond _ a _ => codeAt p a
  | .els :: p, .cond _ _ b => codeAt p b
  | .block :: p, .block _ b => codeAt p b
  | .loop :: p, .loop b => codeAt p b
  | .scope :: p, .scope b => codeAt p b
  | _ :: _, c => c

/-- what is done behind a place; 'ns': the fuel of each loop around it, the outermost first -/
def ctxK (C : Cfg) (cl : CallFn) (m : Nat) (g rd : Bool) (f : FuncId) : List Step → List Nat → Code → K → K
  | [], _, _, k => k
  | .seqL :: p, ns, .seq a b, k => ctxK C cl m g rd f p ns a (fun x e s => match x with
    | .normal => cutK g (C.cut f (regionOf b)) (fun e s k => exec C cl m g rd f b e s k) e s k
    | x => k x e s)
  | .seqR :: p, ns, .seq _ b, k => ctxK C cl m g rd f p ns b k
  | .thn :: p, ns, .cond _ a _, k => ctxK C cl m g rd f p ns a k
  | .els :: p, ns, .cond _ _ b, k => ctxK C cl m g rd f p ns b k
  | .block :: p, ns, .block id b, k => ctxK C cl m g rd f p ns b (fun x e s => match x with
    | .exit j => bif Nat.beq j id then k .normal e s else k (.exit j) e s
    | x => k x e s)
  | .loop :: p, n :: ns, .loop b, k => ctxK C cl m g rd f p ns b (fun x e s => match x with
    | .normal => loopN (fun e s k => exec C cl m g rd f b e s k) (C.keep f (regionOf b)) n (keepE (C.keep f (regionOf b)) e) s k
    | x => k x e s)
  | .scope :: p, ns, .scope b, k => ctxK C cl m g rd f p ns b k
  | _ :: _, _, _, k => k

/-- the loop at a place, from a kept environment on -/
def loopAt (C : Cfg) (cl : CallFn) (m : Nat) (g rd : Bool) (f : FuncId) (p : List Step) (c : Code) (n : Nat) (e : Env) (s : St) (k : K) : Res :=
  match codeAt p c with
  | .loop b => loopN (fun e s k => exec C cl m g rd f b e s k) (C.keep f (regionOf b)) n e s k
  | _ => none

/-- the piece of code at a place where ways meet -/
def execAt (C : Cfg) (cl : CallFn) (m : Nat) (g rd : Bool) (f : FuncId) (p : List Step) (c : Code) (e : Env) (s : St) (k : K) : Res := cutN g (fun e s k => exec C cl m g rd f (codeAt p c) e s k) e s k

def body (fn : Func) : Code := match fn.body with | some b => b | none => .skip

end Go.Am
