/- The abstract interpreter: the program's own code, over values without addresses. Definitions alone. -/
import Derived.Calls
import Derived.Orders
set_option linter.unusedVariables false
set_option linter.unusedSimpArgs false
set_option linter.unusedSectionVars false
set_option linter.defProp false
namespace Go.Ev
open Go

/-- Abstract values. rows: an immutable slice by its elements' cells (full: its capacity is its length). orow: a new row, handed over by a call.
    eptr: a pointer to cells that stay. lrow, lptr, liter: a row, a pointer into, an iterator of a local object (named by the slot that made it, and its generation). ptr: a heap object. -/
inductive AV where
  | int (k : IntKind) (n : Int)
  | bool (b : Bool)
  | str (s : ByteArray)
  | rows (full : Bool) (xs : List (List AV))
  | orow (ty sz : Nat) (xs : List (List AV))
  | eptr (cs : List AV)
  | lrow (d g : Nat)
  | lptr (d g i off : Nat)
  | liter (d g : Nat)
  | ptr (id off : Nat)
  | nilptr
  | func (fn : Fn) (first captured : List AV)
  | nilFunc
  | iface (t : TypeId) (v : AV)
  | nilIface
  | agg (cs : List AV)
  | tuple (vs : List AV)
  | undef

/-- A local object: its generation, is it given away (never written again), is it an iterator, cells of an element, elements. -/
structure LObj where
  g : Nat
  frz : Bool
  it : Bool
  ty : TypeId
  sz : Nat
  xs : List (List AV)

structure St where
  fr : List AV
  loc : List (Option LObj)
  gen : Nat → Nat
  hp : List (List AV)

/-- A type, as the interpreter asks for it. -/
structure TI where
  desc : TypeDesc
  size : Nat
  bytes : Nat
  zero : List AV
abbrev Tab := TypeId → Option TI
def TI.agg (i : TI) : Bool := match i.desc with | .struct _ | .array _ _ => true | _ => false

structure Cfg where
  tab : Tab
  meth : TypeId → String → Option FuncId      -- value methods behind an interface
  esc : FuncId → List Tmp                      -- slots whose variables live in the heap
  own : FuncId → Bool                          -- functions that hand over a new row
  xf : FuncId → Bool                           -- functions that write the row of their first parameter
  prim : FuncId → Bool                         -- functions that are not entered: 'primF'
  laid : List Nat                              -- blocks that nobody writes (tables of package-level variables), as in
  laidIn : World

inductive Res where
  | ret (v : AV) (out : List (List AV)) (hp : List (List AV))
  | pan (v : AV) (hp : List (List AV))

abbrev Callee := FuncId → List AV → List (List AV) → Option Res

inductive Out where
  | val (v : AV) (st : St)
  | pan (v : AV) (st : St)

def ofConst : Value → Option AV
  | .int k n => some (.int k n)
  | .bool b => some (.bool b)
  | .string s => some (.str s)
  | .slice none 0 0 => some (.rows true [])
  | .pointer none => some .nilptr
  | .nilFunc => some .nilFunc
  | .nilIface => some .nilIface
  | _ => none

def opnd (st : St) : Operand → Option AV
  | .tmp t => some (st.fr.getD t .undef)
  | .const v => ofConst v
  | .func f => some (.func (.func f) [] [])
  | .global _ => none
def opndL (st : St) : List Operand → Option (List AV)
  | [] => some []
  | x :: xs => match opnd st x with
    | some v => match opndL st xs with
      | some vs => some (v :: vs)
      | none => none
    | none => none
def opndP (st : St) : List (Nat × Operand) → Option (List (Nat × AV))
  | [] => some []
  | (i, x) :: xs => match opnd st x with
    | some v => match opndP st xs with
      | some vs => some ((i, v) :: vs)
      | none => none
    | none => none

def St.lobj (st : St) (d g : Nat) : Option LObj :=
  match st.loc.getD d none with
  | some o => if o.g = g then some o else none
  | none => none

/-- A value of type i out of cells. -/
def readCells (i : TI) (cs : List AV) : Option AV :=
  if i.agg then (if i.size ≤ cs.length then some (.agg (cs.take i.size)) else none) else cs.head?

def loadAt (i : TI) (st : St) : AV → Option AV
  | .eptr cs => readCells i cs
  | .lptr d g k off => match st.lobj d g with
    | some o => if o.it then none else match o.xs[k]? with
      | some x => readCells i (x.drop off)
      | none => none
    | none => none
  | .ptr id off => match st.hp[id]? with
    | some x => readCells i (x.drop off)
    | none => none
  | _ => none

def cellsOf : AV → List AV
  | .agg cs => cs
  | x => [x]

def writeCells (x : List AV) (off : Nat) : List AV → List AV
  | [] => x
  | v :: vs => writeCells (x.set off v) (off + 1) vs

/-- May it be a cell's value (in a frame's own memory)? -/
def isCell : AV → Bool
  | .undef | .orow .. | .agg .. | .tuple .. => false
  | _ => true
/-- A cell's value out of the frame's own words: it may lie in memory that stays. -/
def clean1 : AV → Bool
  | .lrow .. | .lptr .. | .liter .. | .undef | .orow .. | .agg .. | .tuple .. => false
  | _ => true

/-- May it be stored: cells, or one cell that is known to be one. -/
def okCells (st : St) : AV → Bool
  | .agg _ => true
  | .lrow d g => match st.lobj d g with
    | some o => !o.it
    | none => false
  | x => clean1 x
/-- A cell's value handed out of the frame: a row of the frame's own is one that stays, from now on. -/
def give1 (st : St) : AV → Option (AV × St)
  | .lrow d g => match st.lobj d g with
    | some o => if o.it = false ∧ o.xs.all (fun x => x.all clean1) = true then some (.rows false o.xs, { st with loc := st.loc.set d (some { o with frz := true }) }) else none
    | none => none
  | .rows _ xs => some (.rows false xs, st)
  | x => if clean1 x then some (x, st) else none
def giveL (st : St) : List AV → Option (List AV × St)
  | [] => some ([], st)
  | x :: xs => match give1 st x with
    | some r => match giveL r.2 xs with
      | some q => some (r.1 :: q.1, q.2)
      | none => none
    | none => none
def giveV (st : St) : AV → Option (AV × St)
  | .agg cs => match giveL st cs with
    | some q => some (.agg q.1, q.2)
    | none => none
  | x => give1 st x
def giveA (st : St) : List AV → Option (List AV × St)
  | [] => some ([], st)
  | x :: xs => match giveV st x with
    | some r => match giveA r.2 xs with
      | some q => some (r.1 :: q.1, q.2)
      | none => none
    | none => none
/-- A captured variable: a box that is not written any more. -/
def giveC1 (st : St) (x : AV) : Option (AV × St) :=
  match x with
  | .lptr d g i off => if i = 0 ∧ off = 0 then match st.lobj d g with
    | some o => if o.it then none else match o.xs with
      | [cs] => match giveL st cs with
        | some q => match q.2.lobj d g with
          | some o => if o.it = false ∧ o.xs.length = 1 ∧ o.sz = cs.length then some (.eptr q.1, { q.2 with loc := q.2.loc.set d (some { o with frz := true, xs := [q.1] }) }) else none
          | none => none
        | none => none
      | _ => none
    | none => none else none
  | y => if clean1 y then some (y, st) else none
def giveC (st : St) : List AV → Option (List AV × St)
  | [] => some ([], st)
  | x :: xs => match giveC1 st x with
    | some r => match giveC r.2 xs with
      | some q => some (r.1 :: q.1, q.2)
      | none => none
    | none => none

def storeAt (i : TI) (st : St) (a x : AV) : Option St :=
  if (cellsOf x).length = i.size ∧ okCells st x = true then
    match a with
    | .lptr d g k off => match st.lobj d g with
      | some o => if o.frz ∨ o.it then none else match o.xs[k]? with
        | some y => if off + i.size ≤ y.length then some { st with loc := st.loc.set d (some { o with xs := o.xs.set k (writeCells y off (cellsOf x)) }) } else none
        | none => none
      | none => none
    | .ptr id off => match giveV st x with
      | some r => match r.2.hp[id]? with
        | some y => if off + i.size ≤ y.length then some { r.2 with hp := r.2.hp.set id (writeCells y off (cellsOf r.1)) } else none
        | none => none
      | none => none
    | _ => none
  else none

/-- A new object of the frame's own, named by the slot. -/
def bump (gen : Nat → Nat) (d : Nat) : Nat → Nat := fun e => if e = d then gen e + 1 else gen e
def St.mk_ (st : St) (d : Nat) (it : Bool) (ty sz : Nat) (xs : List (List AV)) : St :=
  { st with loc := st.loc.set d (some ⟨st.gen d, false, it, ty, sz, xs⟩), gen := bump st.gen d }

/-! ### Operations on numbers, texts, .. -/
def intBin (op : BinOp) (k : IntKind) (a b : Int) : Option AV :=
  match op with
  | .add => some (.int k (k.wrap (a + b)))
  | .sub => some (.int k (k.wrap (a - b)))
  | .mul => some (.int k (k.wrap (a * b)))
  | .quo => if b = 0 then none else some (.int k (k.wrap (a.tdiv b)))
  | .rem => if b = 0 then none else some (.int k (a.tmod b))
  | .and => some (.int k (k.wrap (BitVec.ofInt k.bits a &&& BitVec.ofInt k.bits b).toNat))
  | .or => some (.int k (k.wrap (BitVec.ofInt k.bits a ||| BitVec.ofInt k.bits b).toNat))
  | .xor => some (.int k (k.wrap (BitVec.ofInt k.bits a ^^^ BitVec.ofInt k.bits b).toNat))
  | .eql => some (.bool (a == b))
  | .neq => some (.bool (a != b))
  | .lss => some (.bool (decide (a < b)))
  | .leq => some (.bool (decide (a ≤ b)))
  | .gtr => some (.bool (decide (a > b)))
  | .geq => some (.bool (decide (a ≥ b)))
  | _ => none
def strBin (op : BinOp) (a b : ByteArray) : Option AV :=
  match op with
  | .eql => some (.bool (a.toList == b.toList))
  | .neq => some (.bool (!(a.toList == b.toList)))
  | .lss => some (.bool (Op.bytesLess a.toList b.toList))
  | .leq => some (.bool (Op.bytesLess a.toList b.toList || a.toList == b.toList))
  | .gtr => some (.bool (!(Op.bytesLess a.toList b.toList || a.toList == b.toList)))
  | .geq => some (.bool (!(Op.bytesLess a.toList b.toList)))
  | _ => none
/-- '==' with nil, or of bools. -/
def eqBin (i : TI) : AV → AV → Option Bool
  | .bool a, .bool b => match i.desc with | .bool => some (a == b) | _ => none
  | .nilptr, .nilptr => match i.desc with | .pointer _ => some true | _ => none
  | .ptr _ _, .nilptr => match i.desc with | .pointer _ => some false | _ => none
  | .nilptr, .ptr _ _ => match i.desc with | .pointer _ => some false | _ => none
  | .iface _ _, .nilIface => match i.desc with | .interface _ => some false | _ => none
  | .nilIface, .iface _ _ => match i.desc with | .interface _ => some false | _ => none
  | .nilFunc, .nilFunc => match i.desc with | .func _ _ _ => some true | _ => none
  | .func _ _ _, .nilFunc => match i.desc with | .func _ _ _ => some false | _ => none
  | _, _ => none
def isNilConst : Operand → Bool
  | .const .nilIface => true
  | _ => false
def isNilSl : Operand → Bool
  | .const (.slice none 0 0) => true
  | _ => false
def binopA (tab : Tab) (op : BinOp) (t : TypeId) (x y : Operand) (a b : AV) : Option AV :=
  match a, b with
  | .int k m, .int k' n =>
    match op with
    | .shl => if 0 ≤ n then some (.int k (k.wrap (m * 2 ^ (min n.toNat k.bits)))) else none
    | .shr => if 0 ≤ n then some (.int k (m.fdiv (2 ^ (min n.toNat k.bits)))) else none
    | _ => if k = k' then intBin op k m n else none
  | .str m, .str n => strBin op m n
  | .nilIface, .nilIface => if isNilConst x ∨ isNilConst y then match op with
      | .eql => match tab t with | some ⟨.interface _, _, _, _⟩ => some (.bool true) | _ => none
      | .neq => match tab t with | some ⟨.interface _, _, _, _⟩ => some (.bool false) | _ => none
      | _ => none else none
  | .rows _ (_ :: _), .rows _ _ => if isNilSl y then match tab t with
      | some i => match i.desc with
        | .slice _ => match op with
          | .eql => some (.bool false)
          | .neq => some (.bool true)
          | _ => none
        | _ => none
      | none => none else none
  | a, b => match tab t with
    | some i => match op with
      | .eql => (eqBin i a b).map .bool
      | .neq => (eqBin i a b).map fun r => .bool (!r)
      | _ => none
    | none => none

def kindOf (d : TypeDesc) : Option IntKind := match d with | .int k => some k | _ => none
def convA (tab : Tab) (src dst : TypeId) : AV → Option AV
  | .int _ n => match tab src, tab dst with
    | some _, some i => match i.desc with
      | .int k => some (.int k (k.wrap n))
      | .string => some (.str (Utf8.encode n))
      | _ => none
    | _, _ => none
  | .str s => match tab src, tab dst with
    | some _, some i => match i.desc with | .string => some (.str s) | _ => none
    | _, _ => none
  | _ => none

/-- Where a struct's field begins, and its cells. -/
def fieldOf (tab : Tab) (fs : Array Field) (k : Nat) : Option (Nat × Nat) :=
  match fs[k]? with
  | some f => match tab f.type with
    | some i => some (f.offset, i.size)
    | none => none
  | none => none
def fillA (st : St) (place : Nat → Option (Nat × Nat)) (cells : List AV) : List (Nat × AV) → Option (List AV)
  | [] => some cells
  | (k, v) :: rest => match place k with
    | some (off, size) => if (cellsOf v).length = size ∧ off + size ≤ cells.length ∧ okCells st v = true then fillA st place (writeCells cells off (cellsOf v)) rest else none
    | none => none
def known (tab : Tab) (fs : Array Field) : Bool := fs.toList.all fun f => (tab f.type).isSome

/-- The elements of a row that is read. -/
def elemsOf (st : St) : AV → Option (List (List AV))
  | .rows _ xs => some xs
  | .lrow d g => match st.lobj d g with
    | some o => if o.it then none else some o.xs
    | none => none
  | _ => none
def idx (r : AV) : Option Int := match r with | .int _ n => some n | _ => none

def roomB : Nat := 140737488355328
/-- append(s, x): behind d. -/
def appendA (e : TypeId) (i : TI) (st : St) (d : Nat) (s : AV) (ys : List (List AV)) : Option Out :=
  if i.size = 0 ∨ i.bytes = 0 then none else
  match s with
  | .rows true xs => if (xs.length + ys.length) * i.bytes ≤ roomB ∧ (xs = [] ∨ ys ≠ []) ∧ ys.all (fun y => y.length == i.size && y.all clean1) ∧ xs.all (fun y => y.length == i.size && y.all clean1) then some (.val (.lrow d (st.gen d)) (st.mk_ d false e i.size (xs ++ ys))) else none
  | .lrow k g => match st.lobj k g with
    | some o => if o.frz ∨ o.it ∨ o.sz ≠ i.size ∨ o.ty ≠ e then none else
      if (o.xs.length + ys.length) * i.bytes ≤ roomB ∧ ys.all (fun y => y.length == i.size && y.all clean1) then some (.val (.lrow k (st.gen k)) { st with loc := st.loc.set k (some { o with g := st.gen k, xs := o.xs ++ ys }), gen := bump st.gen k }) else none
    | none => none
  | _ => none

def lenA (st : St) : AV → Option Nat
  | .str s => some s.size
  | .rows _ xs => some xs.length
  | .lrow d g => match st.lobj d g with
    | some o => if o.it then none else some o.xs.length
    | none => none
  | _ => none

def builtinA (tab : Tab) (st : St) (d : Nat) (b : Builtin) (ts : List TypeId) (args : List AV) : Option Out :=
  match b with
  | .len => match ts, args with
    | t :: _, [x] => match tab t with
      | some i => match i.desc, x with
        | .string, .str s => some (.val (.int .i64 s.size) st)
        | .slice _, x => match x with
          | .str _ => none
          | x => match lenA st x with
            | some n => some (.val (.int .i64 n) st)
            | none => none
        | _, _ => none
      | none => none
    | _, _ => none
  | .append => match ts, args with
    | [t, u], [s, x] => match tab t, tab u with
      | some i, some j => match i.desc, j.desc with
        | .slice e, .slice _ => match tab e with
          | some ei => match elemsOf st x with
            | some ys => appendA e ei st d s ys
            | none => none
          | none => none
        | _, _ => none
      | _, _ => none
    | _, _ => none
  | _ => none

/-- x[lo:hi:mx] of a list. -/
def cutA (xs : List (List AV)) (full : Bool) (lo hi mx : Option Int) : Option AV :=
  if 0 ≤ lo.getD 0 ∧ lo.getD 0 ≤ hi.getD xs.length ∧ hi.getD xs.length ≤ xs.length then
    match mx with
    | none => some (.rows (full && hi.getD xs.length == (xs.length : Int)) ((xs.take (hi.getD xs.length).toNat).drop (lo.getD 0).toNat))
    | some m => if m = hi.getD xs.length ∧ hi.isSome = true then some (.rows true ((xs.take (hi.getD xs.length).toNat).drop (lo.getD 0).toNat)) else none
  else none
def cutS (s : ByteArray) (lo hi : Option Int) : Option AV :=
  if 0 ≤ lo.getD 0 ∧ lo.getD 0 ≤ hi.getD s.size ∧ hi.getD s.size ≤ s.size then some (.str (s.extract (lo.getD 0).toNat (hi.getD s.size).toNat)) else none
def optIdx (st : St) : Option Operand → Option (Option Int)
  | none => some none
  | some x => match opnd st x with
    | some v => match idx v with
      | some n => some (some n)
      | none => none
    | none => none

def put (st : St) (dst : Option Tmp) (v : AV) : St :=
  match dst with
  | some d => { st with fr := st.fr.set d v }
  | none => st

def cleanRows (xs : List (List AV)) : Bool := xs.all fun x => x.all clean1
def isORow : AV → Bool
  | .orow .. => true
  | _ => false
/-- A call: the arguments handed over, the callee, what comes back. -/
def callV (cf : Cfg) (C : Callee) (st : St) (d : Option Tmp) (f : FuncId) (args : List AV) : Option Out :=
  if cf.xf f then
    match args with
    | .lrow e g :: rest => match giveA st rest with
      | some r => match r.2.lobj e g with
        | some o => if o.frz = false ∧ o.it = false ∧ cleanRows o.xs = true then match C f (.orow o.ty o.sz o.xs :: r.1) r.2.hp with
            | some (.ret v out hp) => if out.length = o.xs.length ∧ isORow v = false ∧ out.all (fun x => x.length == o.sz) = true then some (.val v { r.2 with hp := hp, loc := r.2.loc.set e (some { o with xs := out }) }) else none
            | _ => none
          else none
        | none => none
      | none => none
    | _ => none
  else match giveA st args with
    | some r => match C f r.1 r.2.hp with
      | some (.ret (.orow ty sz xs) _ hp) => match d with
        | some d => some (.val (.lrow d (r.2.gen d)) ({ r.2 with hp := hp }.mk_ d false ty sz xs))
        | none => none
      | some (.ret v _ hp) => some (.val v { r.2 with hp := hp })
      | some (.pan v hp) => some (.pan v { r.2 with hp := hp })
      | none => none
    | none => none

/-- One operation. 'esc': slots whose variables live in the heap. -/
def aop (cf : Cfg) (C : Callee) (esc : List Tmp) (o : Oper) (st : St) : Option Out :=
  match o.op with
  | .move x | .assign x => match opnd st x with
    | some v => some (.val v st)
    | none => none
  | .pick c a b => match opnd st c with
    | some (.bool t) => match opnd st (if t then a else b) with
      | some v => some (.val v st)
      | none => none
    | _ => none
  | .alloc t => match o.dst, cf.tab t with
    | some d, some i => if esc.contains d then some (.val (.ptr st.hp.length 0) { st with hp := st.hp ++ [i.zero] }) else some (.val (.lptr d (st.gen d) 0 0) (st.mk_ d false t i.size [i.zero]))
    | _, _ => none
  | .box t x => match o.dst, cf.tab t, opnd st x with
    | some d, some i, some v => if (cellsOf v).length = i.size ∧ okCells st v = true then
        (if esc.contains d then match giveV st v with
          | some r => some (.val (.ptr r.2.hp.length 0) { r.2 with hp := r.2.hp ++ [cellsOf r.1] })
          | none => none
        else some (.val (.lptr d (st.gen d) 0 0) (st.mk_ d false t i.size [cellsOf v]))) else none
    | _, _, _ => none
  | .build t parts => match cf.tab t, opndP st parts.toList with
    | some i, some ps => match i.desc with
      | .struct fs => if known cf.tab fs then match fillA st (fieldOf cf.tab fs) i.zero ps with
          | some cs => some (.val (.agg cs) st)
          | none => none else none
      | _ => none
    | _, _ => none
  | .buildSlice t len parts => match o.dst, cf.tab t, opndP st parts.toList with
    | some d, some i, some ps => match i.desc with
      | .slice e => match cf.tab e with
        | some ei => if len * ei.size ≤ 16777216 ∧ ei.size ≠ 0 then
            match giveA st (ps.map (·.2)) with
            | some r => if ps.map (·.1) = List.range len ∧ r.1.all (fun v => (cellsOf v).length == ei.size && (cellsOf v).all clean1) then some (.val (.lrow d (r.2.gen d)) (r.2.mk_ d false e ei.size (r.1.map cellsOf))) else none
            | none => none
          else none
        | none => none
      | _ => none
    | _, _, _ => none
  | .load t a => match cf.tab t, opnd st a with
    | some i, some p => match loadAt i st p with
      | some v => some (.val v st)
      | none => none
    | _, _ => none
  | .store t a x => match cf.tab t, opnd st a, opnd st x with
    | some i, some p, some v => match storeAt i st p v with
      | some st => some (.val .undef st)
      | none => none
    | _, _, _ => none
  | .nilCheck x => match opnd st x with
    | some (.ptr id off) => some (.val (.ptr id off) st)
    | some (.lptr d g i off) => match st.lobj d g with
      | some _ => some (.val (.lptr d g i off) st)
      | none => none
    | some (.eptr cs) => some (.val (.eptr cs) st)
    | _ => none
  | .binOp op t x y _ => match opnd st x, opnd st y with
    | some a, some b => match binopA cf.tab op t x y a b with
      | some v => some (.val v st)
      | none => none
    | _, _ => none
  | .unOp op _ x => match op, opnd st x with
    | .not, some (.bool b) => some (.val (.bool !b) st)
    | .neg, some (.int k n) => some (.val (.int k (k.wrap (0 - n))) st)
    | _, _ => none
  | .convert src dst x => match opnd st x with
    | some v => match convA cf.tab src dst v with
      | some v => some (.val v st)
      | none => none
    | none => none
  | .makeInterface t x => match cf.tab t, opnd st x with
    | some i, some v => match i.desc with
      | .interface _ => none
      | _ => match giveV st v with
        | some r => some (.val (.iface t r.1) r.2)
        | none => none
    | _, _ => none
  | .makeFunc fn first captured => match opndL st captured.toList with
    | some cs => if first.isEmpty then match giveC st cs with
        | some r => some (.val (.func fn [] r.1) r.2)
        | none => none else none
    | none => none
  | .makeSlice t l c => match o.dst, cf.tab t, opnd st l, opnd st c with
    | some d, some i, some (.int _ n), some (.int _ m) => match i.desc with
      | .slice e => match cf.tab e with
        | some ei => if n = m ∧ 0 ≤ n ∧ n.toNat * ei.bytes ≤ roomB ∧ ei.bytes ≠ 0 ∧ ei.size ≠ 0 then some (.val (.lrow d (st.gen d)) (st.mk_ d false e ei.size (List.replicate n.toNat ei.zero))) else none
        | none => none
      | _ => none
    | _, _, _, _ => none
  | .slice t x lo hi mx => match cf.tab t, opnd st x, optIdx st lo, optIdx st hi, optIdx st mx with
    | some i, some v, some l, some h, some m => match i.desc, v with
      | .slice e, v => match v with
        | .rows full xs => match cf.tab e with
          | some ei => if xs.all (fun x => x.length == ei.size) then match cutA xs full l h m with
            | some r => some (.val r st)
            | none => none else none
          | none => none
        | .lrow d g => match cf.tab e, give1 st (.lrow d g) with
          | some ei, some (.rows _ xs, st') => if xs.all (fun x => x.length == ei.size) then match cutA xs false l h m with
            | some r => some (.val r st')
            | none => none else none
          | _, _ => none
        | _ => none
      | .string, .str s => match m with
        | some _ => none
        | none => match cutS s l h with
          | some r => some (.val r st)
          | none => none
      | _, _ => none
    | _, _, _, _, _ => none
  | .fieldAddr t a k => match cf.tab t, opnd st a with
    | some i, some p => match i.desc with
      | .struct fs => match fs[k]? with
        | some f => match cf.tab f.type with
          | some j => if j.size = 0 then none else match p with
            | .eptr cs => some (.val (.eptr (cs.drop f.offset)) st)
            | .lptr d g j off => match st.lobj d g with
              | some _ => some (.val (.lptr d g j (off + f.offset)) st)
              | none => none
            | .ptr id off => some (.val (.ptr id (off + f.offset)) st)
            | _ => none
          | none => none
        | none => none
      | _ => none
    | _, _ => none
  | .indexAddr t x k => match cf.tab t, opnd st x, opnd st k with
    | some i, some r, some (.int _ n) => match i.desc with
      | .slice e => match cf.tab e with
        | some ei => match r with
          | .rows _ xs => if 0 ≤ n then match xs[n.toNat]? with
              | some x => if x.length = ei.size then some (.val (.eptr x) st) else none
              | none => none else none
          | .lrow d g => match st.lobj d g with
            | some o => if o.it = false ∧ o.sz = ei.size ∧ 0 ≤ n ∧ n < o.xs.length then some (.val (.lptr d g n.toNat 0) st) else none
            | none => none
          | _ => none
        | none => none
      | _ => none
    | _, _, _ => none
  | .index t x k => match cf.tab t, opnd st x, opnd st k with
    | some i, some (.str s), some (.int _ n) => match i.desc with
      | .string => if 0 ≤ n then match s[n.toNat]? with
          | some b => some (.val (.int .u8 b.toNat) st)
          | none => none else none
      | _ => none
    | _, _, _ => none
  | .range t x => match o.dst, cf.tab t, opnd st x with
    | some d, some i, some (.str s) => match i.desc with
      | .string => some (.val (.liter d (st.gen d)) (st.mk_ d true 0 2 [[.str s, .int .i64 0]]))
      | _ => none
    | _, _, _ => none
  | .next it isS => match opnd st it with
    | some (.liter d g) => match st.lobj d g with
      | some ⟨g', f, true, ty, sz, [[.str s, .int .i64 p]]⟩ => if isS ∧ 0 ≤ p then
          if p < s.size then some (.val (.tuple [.bool true, .int .i64 p, .int .i32 (Utf8.decode s p.toNat).1]) { st with loc := st.loc.set d (some ⟨g', f, true, ty, sz, [[.str s, .int .i64 (p + (Utf8.decode s p.toNat).2)]]⟩) })
          else some (.val (.tuple [.bool false]) st)
        else none
      | _ => none
    | _ => none
  | .extract x i => match opnd st x with
    | some (.tuple vs) => match vs[i]? with
      | some v => some (.val v st)
      | none => none
    | _ => none
  | .call c => match c.callee with
    | .builtin b => match opndL st c.args.toList with
      | some as => builtinA cf.tab st (o.dst.getD 0) b c.argTypes.toList as
      | none => none
    | .value f => match opnd st f with
      | some (.func (.func g) [] cap) => match opndL st c.args.toList with
        | some as => callV cf C st o.dst g (as ++ cap)
        | none => none
      | _ => none
    | .invoke r name => match opnd st r with
      | some (.iface t v) => match cf.meth t name with
        | some g => match opndL st c.args.toList with
          | some as => callV cf C st o.dst g (v :: as)
          | none => none
        | none => none
      | _ => none
  | .panic x => match opnd st x with
    | some (.iface t v) => some (.pan (.iface t v) st)
    | _ => none
  | _ => none

inductive Ex where
  | normal
  | exit (id : Nat)
  | ret
  | pan (v : AV)

/-- Is an operation carried out? -/
def wantedA (ops : Array Oper) (st : St) (o : Oper) : Option Bool :=
  match o.guard with
  | none => some true
  | some (j, want) => match ops[j]? with
    | some oj => match oj.dst with
      | some d => match st.fr.getD d .undef with
        | .bool b => some (b == want)
        | .tuple [] => some false
        | _ => none
      | none => none
    | none => none

def evOps (cf : Cfg) (C : Callee) (esc : List Tmp) (ops : Array Oper) : List Oper → St → Option (Ex × St)
  | [], st => some (.normal, st)
  | o :: os, st => match wantedA ops st o with
    | some true => match aop cf C esc o st with
      | some (.val v st) => evOps cf C esc ops os (put st o.dst v)
      | some (.pan v st) => some (.pan v, st)
      | none => none
    | some false => evOps cf C esc ops os (put st o.dst (.tuple []))
    | none => none

/-! ### A region that draws its order: it is run in the order of the text; each operation's record says which local objects it looked at or changed (by their slots), whether it changed anything, and what it did to the heap objects. Operations that no edge orders must be far apart. -/
def refC : AV → List Nat
  | .lrow d _ => [d]
  | .lptr d _ _ _ => [d]
  | .liter d _ => [d]
  | _ => []
def refs : AV → List Nat
  | .agg cs => cs.flatMap refC
  | x => refC x
def refsO (s : St) (x : Operand) : List Nat := match opnd s x with | some v => refs v | none => []
def refsOs (s : St) : List Operand → List Nat
  | [] => []
  | x :: xs => refsO s x ++ refsOs s xs
inductive HK where
  | no
  | rd (id : Nat)
  | touch (n : Nat) (ext : Prop)
structure Rec where
  slots : List Nat
  quiet : Bool
  hk : HK
def touchOf (s s1 : St) : HK := .touch s.hp.length (∃ new, s1.hp = s.hp ++ new)
def dstL (o : Oper) : List Nat := match o.dst with | some d => [d] | none => []
def capR (s : St) (f : Operand) : List Nat := match opnd s f with | some (.func _ _ cap) => cap.flatMap refs | _ => []
def recOf (esc : List Tmp) (o : Oper) (s s1 : St) : Option Rec :=
  match o.op with
  | .move _ | .assign _ | .pick .. | .binOp .. | .unOp .. | .convert .. | .extract .. | .index .. => some ⟨[], true, .no⟩
  | .build .. | .nilCheck _ | .fieldAddr .. | .indexAddr .. => some ⟨refsOs s o.op.operands.toList, true, .no⟩
  | .load _ a => match opnd s a with
    | some (.ptr id _) => some ⟨[], true, .rd id⟩
    | _ => some ⟨refsO s a, true, .no⟩
  | .slice _ x _ _ _ => match opnd s x with
    | some (.lrow d _) => some ⟨[d], false, .no⟩
    | _ => some ⟨[], true, .no⟩
  | .alloc _ | .box .. => some ⟨dstL o ++ refsOs s o.op.operands.toList, false, if esc.contains (o.dst.getD 0) then touchOf s s1 else .no⟩
  | .buildSlice .. => some ⟨dstL o ++ refsOs s o.op.operands.toList, false, .no⟩
  | .store _ a _ => some ⟨refsOs s o.op.operands.toList, false, match opnd s a with | some (.ptr ..) => touchOf s s1 | _ => .no⟩
  | .call c => match c.callee with
    | .builtin .len => some ⟨refsOs s o.op.operands.toList, true, .no⟩
    | .builtin _ => some ⟨(o.dst.getD 0) :: refsOs s o.op.operands.toList, false, .no⟩
    | .value f => some ⟨dstL o ++ (capR s f ++ refsOs s o.op.operands.toList), false, touchOf s s1⟩
    | .invoke .. => none
  | _ => none
def disj : List Nat → List Nat → Bool
  | [], _ => true
  | x :: xs, ys => !ys.contains x && disj xs ys
def hkFit : HK → HK → Prop
  | .no, _ => True
  | _, .no => True
  | .rd _, .rd _ => True
  | .rd id, .touch n ext => ext ∧ id < n
  | .touch n ext, .rd id => ext ∧ id < n
  | .touch .., .touch .. => False
def fit (p q : Rec) : Prop := ((p.quiet = true ∧ q.quiet = true) ∨ disj p.slots q.slots = true) ∧ hkFit p.hk q.hk
/-- Is operation i ahead of j by an edge, or by a chain of edges? -/
def ahead (ops : Array Oper) : Nat → Nat → Nat → Bool
  | 0, _, _ => false
  | k + 1, i, j => match ops[j]? with
    | some o => o.after.toList.any fun e => Region.binds .any e && (e.on == i || ahead ops k i e.on)
    | none => false
/-- What the region's text must bear: edges lead back; what no edge orders has slots of its own. -/
def staticB (ops : Array Oper) : Bool :=
  (List.range ops.size).all fun j => match ops[j]? with
    | some oj => (oj.after.toList.all fun e => !Region.binds .any e || decide (e.on < j)) &&
      (List.range j).all fun i => ahead ops ops.size i j || (match ops[i]? with | some oi => Oper.apart ops oi oj | none => true)
    | none => true
/-- Every region of the code that draws its order bears it. -/
def codeB : Code → Bool
  | .region _ ops dr => !dr || staticB ops
  | .seq a b | .cond _ a b => codeB a && codeB b
  | .block _ c | .loop c => codeB c
  | _ => true
def fitAll (ops : Array Oper) (i : Nat) (r : Rec) : List (Nat × Rec) → Prop
  | [] => True
  | (j, q) :: l => (fit q r ∨ ahead ops ops.size j i = true) ∧ fitAll ops i r l
open Classical in
/-- 'done': the operations run so far, with their records. -/
noncomputable def evDL (cf : Cfg) (C : Callee) (esc : List Tmp) (ops : Array Oper) (i : Nat) (done : List (Nat × Rec)) : List Oper → St → Option (Ex × St)
  | [], st => some (.normal, st)
  | o :: os, st => match wantedA ops st o with
    | some true => match aop cf C esc o st with
      | some (.val v s1) => match recOf esc o st s1 with
        | some r => if fitAll ops i r done then evDL cf C esc ops (i + 1) ((i, r) :: done) os (put s1 o.dst v) else none
        | none => none
      | _ => none
    | some false => evDL cf C esc ops (i + 1) done os (put st o.dst (.tuple []))
    | none => none
noncomputable def evD (cf : Cfg) (C : Callee) (esc : List Tmp) (ops : Array Oper) (st : St) : Option (Ex × St) := evDL cf C esc ops 0 [] ops.toList st

/-- Slots that code may read before it writes them: (written for sure, read before). -/
def opTmps (o : Oper) : List Nat := o.op.operands.toList.filterMap fun x => match x with | .tmp t => some t | _ => none
def liveOps : List Oper → List Nat × List Nat → List Nat × List Nat
  | [], s => s
  | o :: os, s => liveOps os ((match o.dst with | some d => d :: s.1 | none => s.1), (opTmps o).filter (fun t => !s.1.contains t) ++ s.2)
def live : Code → List Nat × List Nat → List Nat × List Nat
  | .region _ ops _, s => liveOps ops.toList s
  | .seq a b, s => live b (live a s)
  | .cond x a b, s => (s.1, (match x with | .tmp t => if s.1.contains t then [] else [t] | _ => []) ++ ((live a s).2 ++ (live b s).2))
  | .block _ c, s => (s.1, (live c s).2)
  | .loop c, s => (s.1, (live c s).2)
  | _, s => s
/-- Slots that are written by other operations than an assignment. -/
def temps1 : Code → List Nat
  | .region _ ops _ => ops.toList.filterMap fun o => match o.op with | .assign _ | .store .. => none | _ => o.dst
  | .seq a b | .cond _ a b => temps1 a ++ temps1 b
  | .block _ c | .loop c => temps1 c
  | _ => []
/-- Slots that make variables. -/
def boxes : Code → List Nat
  | .region _ ops _ => ops.toList.filterMap fun o => match o.op with | .alloc _ | .box .. => o.dst | _ => none
  | .seq a b | .cond _ a b => boxes a ++ boxes b
  | .block _ c | .loop c => boxes c
  | _ => []
/-- The temporaries that a loop's body writes anew in each round: nothing is known of them at its head. -/
def temps (c : Code) : List Nat := (temps1 c).filter fun d => !(live c ([], [])).2.contains d
def maskFr (ts : List Nat) (fr : List AV) : List AV := ts.foldl (fun fr d => fr.set d .undef) fr
def maskLoc (ts : List Nat) (loc : List (Option LObj)) : List (Option LObj) := ts.foldl (fun loc d => loc.set d none) loc
def maskSt (m : List Nat × List Nat) (st : St) : St := { st with fr := maskFr m.1 st.fr, loc := maskLoc m.2 st.loc }
def masks (c : Code) : List Nat × List Nat := (temps c, (boxes c).filter (temps c).contains)

def loopN (body : St → Option (Ex × St)) (m : List Nat × List Nat) : Nat → St → Option (Ex × St)
  | 0, _ => none
  | k + 1, st => match body (maskSt m st) with
    | some (.normal, st) => loopN body m k st
    | r => r

noncomputable def evC (cf : Cfg) (C : Callee) (esc : List Tmp) (k : Nat) : Code → St → Option (Ex × St)
  | .skip, st => some (.normal, st)
  | .region _ ops dr, st => if dr then evD cf C esc ops st else evOps cf C esc ops ops.toList st
  | .seq a b, st => match evC cf C esc k a st with
    | some (.normal, st) => evC cf C esc k b st
    | r => r
  | .cond c a b, st => match opnd st c with
    | some (.bool true) => evC cf C esc k a st
    | some (.bool false) => evC cf C esc k b st
    | _ => none
  | .block id c, st => match evC cf C esc k c st with
    | some (.exit j, st) => if j = id then some (.normal, st) else some (.exit j, st)
    | r => r
  | .loop c, st => loopN (evC cf C esc k c) (masks c) k st
  | .exit id, st => some (.exit id, st)
  | .ret, st => some (.ret, st)
  | .label _, st => some (.normal, st)
  | _, _ => none

/-- What a function hands back: out of slots, or out of its variables in memory. -/
def result1 (tab : Tab) (st : St) : ResultVar → Option AV
  | .tmp t => some (st.fr.getD t .undef)
  | .cell a t => match tab t with
    | some i => loadAt i st (st.fr.getD a .undef)
    | none => none
def resultL (tab : Tab) (st : St) : List ResultVar → Option (List AV)
  | [] => some []
  | r :: rs => match result1 tab st r with
    | some v => match resultL tab st rs with
      | some vs => some (v :: vs)
      | none => none
    | none => none
def obj0 (st : St) : Option LObj :=
  match st.loc.getD 0 none with
  | some o => if o.g = 0 ∧ o.frz = false ∧ o.it = false ∧ cleanRows o.xs = true then some o else none
  | none => none
def out1 (cf : Cfg) (f : FuncId) (v : AV) (st : St) : Option Res :=
  if cf.xf f then match obj0 st with
    | some o => some (.ret v o.xs st.hp)
    | none => none
  else some (.ret v [] st.hp)
def finish (cf : Cfg) (f : FuncId) (rs : List ResultVar) : Option (Ex × St) → Option Res
  | some (Ex.ret, st) | some (Ex.normal, st) =>
    match resultL cf.tab st rs with
    | some [v] =>
      if cf.own f then match v with
        | .lrow d g => match st.lobj d g with
          | some o => if o.frz = false ∧ o.it = false ∧ cleanRows o.xs = true ∧ cf.xf f = false then some (.ret (.orow o.ty o.sz o.xs) [] st.hp) else none
          | none => none
        | _ => none
      else match giveV st v with
        | some r => out1 cf f r.1 r.2
        | none => none
    | some vs => match giveA st vs with
      | some r => out1 cf f (.tuple r.1) r.2
      | none => none
    | none => none
  | some (Ex.pan v, st) => if cf.xf f then none else some (Res.pan v st.hp)
  | _ => none

/-- The frame at the beginning. -/
def begin_ (xf : Bool) (n : Nat) (args : List AV) (hp : List (List AV)) : Option St :=
  match xf, args with
  | true, .orow ty sz xs :: rest => some ⟨.lrow 0 0 :: rest ++ List.replicate (n - (rest.length + 1)) .undef, some ⟨0, false, false, ty, sz, xs⟩ :: List.replicate (rest.length + (n - (rest.length + 1))) none, fun _ => 1, hp⟩
  | false, args => some ⟨args ++ List.replicate (n - args.length) .undef, List.replicate (args.length + (n - args.length)) none, fun _ => 0, hp⟩
  | _, _ => none

noncomputable def evF (P : Program) (cf : Cfg) (pr : Callee → Callee) : Nat → Callee
  | 0, _, _, _ => none
  | k + 1, f, args, hp =>
    if cf.prim f then pr (evF P cf pr k) f args hp else
    match P.funcs[f]? with
    | some fn => match fn.body with
      | some c => match begin_ (cf.xf f) fn.ntmps args hp with
        | some st => finish cf f fn.results.toList (evC cf (evF P cf pr k) (cf.esc f) k c st)
        | none => none
      | none => none
    | none => none
end Go.Ev
