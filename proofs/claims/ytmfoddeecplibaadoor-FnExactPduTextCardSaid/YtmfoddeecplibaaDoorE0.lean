/- The evaluator: what a function's code answers, reckoned over values and a heap of numbered blocks. -/
import Derived.Orders
import Derived.Laws.IdiomCopy
import Derived.Calls
set_option linter.unusedVariables false
set_option linter.unusedSimpArgs false
namespace Go.Ev

/-- One cell. 'lit': the very value. 'sl': a slice over memory that nobody writes. 'ip': a pointer into such memory. 'ref', 'ptr': a slice, a pointer into the block number b. 'fn': a function with what it captured. -/
inductive C where
  | lit (v : Value)
  | sl (s : Nat) (rows : List (List C))
  | ip (cells : List C)
  | ref (s b off len : Nat)
  | ptr (s b row off : Nat)
  | fn (f : FuncId) (caps : List C)

/-- A value of a temporary. -/
inductive V where
  | junk
  | one (c : C)
  | agg (cs : List C)
  | tup (vs : List V)

abbrev V.int (k : IntKind) (n : Int) : V := .one (.lit (.int k n))
abbrev V.i64 (n : Int) : V := .one (.lit (.int .i64 n))
abbrev V.bool (b : Bool) : V := .one (.lit (.bool b))
abbrev V.str (s : ByteArray) : V := .one (.lit (.string s))
abbrev V.nilSl : V := .one (.lit (.slice none 0 0))
abbrev V.undef : V := .tup []

structure Blk where
  s : Nat
  rows : List (List C)

structure Hp where
  at_ : Nat → Option Blk
  next : Nat

structure St where
  env : Nat → V
  hp : Hp

def upd {α : Type} (f : Nat → α) (k : Nat) (x : α) : Nat → α := fun j => if j = k then x else f j
theorem upd_same {α : Type} (f : Nat → α) (k : Nat) (x : α) : upd f k x k = x := by simp [upd]
theorem upd_other {α : Type} (f : Nat → α) (k : Nat) (x : α) (j : Nat) (h : j ≠ k) : upd f k x j = f j := by simp [upd, h]

def St.put (σ : St) (d : Option Nat) (v : V) : St :=
  match d with
  | some d => { σ with env := upd σ.env d v }
  | none => σ

/-- A value as it stands. -/
def ofValue : Value → V
  | .agg cs => if cs.toList.all (·.oneCell') then .agg (cs.toList.map .lit) else .junk
  | .tuple vs => if vs.size = 0 then .tup [] else .junk
  | v => .one (.lit v)

def St.eval (σ : St) : Operand → V
  | .tmp t => σ.env t
  | .const v => ofValue v
  | .global g => .one (.lit (.pointer (some ⟨g, 0, none⟩)))
  | .func f => .one (.fn f [])

def V.cells : V → List C
  | .one c => [c]
  | .agg cs => cs
  | _ => []

/-! ### types -/
def isAggD : Option TypeDesc → Bool
  | some (.struct _) => true
  | some (.array _ _) => true
  | _ => false
def sizeT (P : Program) (t : TypeId) : Option Nat := (P.info? t).map (·.size)
def zeroT (P : Program) (t : TypeId) : Option (List C) :=
  match (P.info? t).bind (·.zero) with
  | some v => if (ofValue v).cells.length = v.cells.size then some (ofValue v).cells else none
  | none => none
def elemT (P : Program) (t : TypeId) : Option TypeId :=
  match P.underlying t with
  | some (.slice e) => some e
  | _ => none
def fieldT (P : Program) (t : TypeId) (i : Nat) : Option Field :=
  match P.underlying t with
  | some (.struct fs) => fs[i]?
  | _ => none

/-- What stands for cells of type t. -/
def packT (P : Program) (t : TypeId) (cs : List C) : Option V :=
  if isAggD (P.underlying t) then some (.agg cs)
  else match cs with
    | [c] => some (.one c)
    | _ => none

/-! ### numbers, strings, bools -/
def binInt (op : BinOp) (k : IntKind) (x y : Int) : Option V :=
  match op with
  | .add => some (.int k (k.wrap (x + y)))
  | .sub => some (.int k (k.wrap (x - y)))
  | .mul => some (.int k (k.wrap (x * y)))
  | .quo => if y = 0 then none else some (.int k (k.wrap (x.tdiv y)))
  | .rem => if y = 0 then none else some (.int k (x.tmod y))
  | .and => some (.int k (k.wrap (BitVec.ofInt k.bits x &&& BitVec.ofInt k.bits y).toNat))
  | .or => some (.int k (k.wrap (BitVec.ofInt k.bits x ||| BitVec.ofInt k.bits y).toNat))
  | .xor => some (.int k (k.wrap (BitVec.ofInt k.bits x ^^^ BitVec.ofInt k.bits y).toNat))
  | .andNot => some (.int k (k.wrap (BitVec.ofInt k.bits x &&& ~~~BitVec.ofInt k.bits y).toNat))
  | .eql => some (.bool (x == y))
  | .neq => some (.bool (x != y))
  | .lss => some (.bool (decide (x < y)))
  | .leq => some (.bool (decide (x ≤ y)))
  | .gtr => some (.bool (decide (x > y)))
  | .geq => some (.bool (decide (x ≥ y)))
  | _ => none

def binShift (op : BinOp) (k : IntKind) (x y : Int) : Option V :=
  if y < 0 then none else
  match op with
  | .shl => some (.int k (k.wrap (x * 2 ^ (min y.toNat k.bits))))
  | .shr => some (.int k (x.fdiv (2 ^ (min y.toNat k.bits))))
  | _ => none

def binStr (op : BinOp) (x y : ByteArray) : Option V :=
  match op with
  | .add => if x.size + y.size ≤ 9223372036854775807 then some (.str (x ++ y)) else none
  | .eql => some (.bool (x.toList == y.toList))
  | .neq => some (.bool (!(x.toList == y.toList)))
  | _ => none

/-- Equality of one cell each, of a type of numbers, bools or strings. -/
def eqCell (d : TypeDesc) (x y : C) : Option Bool :=
  match x, y with
  | .lit (.bool a), .lit (.bool b) => match d with | .bool => some (a == b) | _ => none
  | .lit (.int k a), .lit (.int k' b) => match d with | .int _ => if k = k' then some (a == b) else none | _ => none
  | .lit (.string a), .lit (.string b) => match d with | .string => some (a == b) | _ => none
  | _, _ => none

/-- Equality of structs, field by field. -/
def eqFs (P : Program) (eq : TypeId → List C → List C → Option Bool) (xs ys : List C) : List Field → Option Bool
  | [] => some true
  | f :: fs =>
    if f.name = "_" then none else
    match sizeT P f.type with
    | none => none
    | some k =>
      if xs.length < f.offset + k ∨ ys.length < f.offset + k then none else
      match eq f.type ((xs.drop f.offset).take k) ((ys.drop f.offset).take k) with
      | none => none
      | some b => if b then eqFs P eq xs ys fs else some false

/-- Equality of values of type t (n: how deep structs may nest). -/
def eqT (P : Program) : (n : Nat) → TypeId → List C → List C → Option Bool
  | 0, _, _, _ => none
  | n + 1, t, xs, ys =>
    match P.underlying t with
    | some (.struct fs) => if P.stoodInHeld t || P.eqGuardType P.depth t then none else eqFs P (eqT P n) xs ys fs.toList
    | some (.array _ _) => none
    | some d =>
      match xs, ys with
      | [x], [y] => eqCell d x y
      | _, _ => none
    | none => none

def binOpE (P : Program) (op : BinOp) (t : TypeId) (x y : V) : Option V :=
  match x, y with
  | .one (.lit (.int k a)), .one (.lit (.int k' b)) =>
    match op with
    | .shl | .shr => binShift op k a b
    | _ => if k = k' then binInt op k a b else none
  | .one (.lit (.string a)), .one (.lit (.string b)) => binStr op a b
  | .one (.lit (.bool a)), .one (.lit (.bool b)) =>
    match op, P.underlying t with
    | .eql, some .bool => some (.bool (a == b))
    | .neq, some .bool => some (.bool (!(a == b)))
    | _, _ => none
  | .agg xs, .agg ys =>
    if isAggD (P.underlying t) then
    match op with
    | .eql => (eqT P 8 t xs ys).map fun b => .bool b
    | .neq => (eqT P 8 t xs ys).map fun b => .bool (!b)
    | _ => none
    else none
  | _, _ => none

def unOpE (op : UnOp) (x : V) : Option V :=
  match op, x with
  | .neg, .one (.lit (.int k n)) => some (.int k (k.wrap (0 - n)))
  | .not, .one (.lit (.bool b)) => some (.bool (!b))
  | _, _ => none

/-! ### slices, pointers -/
def lenE (P : Program) (t : TypeId) (x : V) : Option V :=
  match P.underlying t, x with
  | some .string, .one (.lit (.string s)) => some (.i64 s.size)
  | some (.slice _), .one (.lit (.slice none n _)) => some (.i64 n)
  | some (.slice _), .one (.sl _ rows) => some (.i64 rows.length)
  | some (.slice _), .one (.ref _ _ _ len) => some (.i64 len)
  | _, _ => none

/-- The rows that a slice reads as. -/
def rowsE (h : Hp) : C → Option (List (List C))
  | .lit (.slice none 0 0) => some []
  | .sl _ rows => some rows
  | .ref s b off len =>
    match h.at_ b with
    | some k => if k.s = s ∧ off + len ≤ k.rows.length then some ((k.rows.drop off).take len) else none
    | none => none
  | _ => none

def widthE : C → Option Nat
  | .sl s _ => some s
  | .ref s _ _ _ => some s
  | _ => none

def indexAddrE (P : Program) (t : TypeId) (x i : V) : Option V :=
  match elemT P t, x, i with
  | some e, .one (.sl s rows), .one (.lit (.int _ j)) =>
    if (sizeT P e = some s ∧ 0 < s) ∧ 0 ≤ j ∧ j < rows.length then some (.one (.ip (rows.getD j.toNat []))) else none
  | some e, .one (.ref s b off len), .one (.lit (.int _ j)) =>
    if (sizeT P e = some s ∧ 0 < s) ∧ 0 ≤ j ∧ j < len then some (.one (.ptr s b (off + j.toNat) 0)) else none
  | _, _, _ => none

def indexE (P : Program) (t : TypeId) (x i : V) : Option V :=
  match P.underlying t, x, i with
  | some .string, .one (.lit (.string s)), .one (.lit (.int _ j)) =>
    if 0 ≤ j then (s[j.toNat]?).map fun b => .int .u8 b.toNat else none
  | _, _, _ => none

def fieldAddrE (P : Program) (t : TypeId) (x : V) (i : Nat) : Option V :=
  match fieldT P t i with
  | some f =>
    if (sizeT P f.type).getD 0 = 0 then none else
    match x with
    | .one (.ip cells) => some (.one (.ip (cells.drop f.offset)))
    | .one (.ptr s b row off) => some (.one (.ptr s b row (off + f.offset)))
    | _ => none
  | none => none

def fieldE (P : Program) (t : TypeId) (x : V) (i : Nat) : Option V :=
  match fieldT P t i, x with
  | some f, .agg cs =>
    match sizeT P f.type with
    | some k => if (P.underlying f.type).isSome = true ∧ f.offset + k ≤ cs.length then packT P f.type ((cs.drop f.offset).take k) else none
    | none => none
  | _, _ => none

def loadE (P : Program) (h : Hp) (t : TypeId) (x : V) : Option V :=
  match sizeT P t, x with
  | some k, .one (.ip cells) => if (P.underlying t).isSome = true ∧ k ≤ cells.length then packT P t (cells.take k) else none
  | some k, .one (.ptr s b row off) =>
    match h.at_ b with
    | some blk => if (P.underlying t).isSome = true ∧ blk.s = s ∧ row < blk.rows.length ∧ off + k ≤ s then packT P t (((blk.rows.getD row []).drop off).take k) else none
    | none => none
  | _, _ => none

/-- A row with some cells in place of others. -/
def setCells (row : List C) (off : Nat) (cs : List C) : List C := row.take off ++ cs ++ row.drop (off + cs.length)

def Hp.set (h : Hp) (b : Nat) (k : Blk) : Hp := { h with at_ := upd h.at_ b (some k) }

def storeE (P : Program) (h : Hp) (t : TypeId) (x v : V) : Option Hp :=
  match sizeT P t, x with
  | some k, .one (.ptr s b row off) =>
    match h.at_ b with
    | some blk =>
      if 0 < k ∧ blk.s = s ∧ row < blk.rows.length ∧ off + k ≤ s ∧ v.cells.length = k then
        some (h.set b ⟨s, blk.rows.set row (setCells (blk.rows.getD row []) off v.cells)⟩)
      else none
    | none => none
  | _, _ => none

/-- A new block. -/
def Hp.new (h : Hp) (k : Blk) : Hp := { at_ := upd h.at_ h.next (some k), next := h.next + 1 }

def fillC (place : Nat → Option (Nat × Nat)) (cells : List C) : List (Nat × V) → Option (List C)
  | [] => some cells
  | (i, v) :: rest =>
    match place i with
    | none => none
    | some (off, size) =>
      if v.cells.length = size ∧ off + size ≤ cells.length then fillC place (setCells cells off v.cells) rest else none

def placesT (P : Program) (fs : Array Field) : Nat → Option (Nat × Nat) := fun i =>
  match fs[i]? with
  | some f => (sizeT P f.type).map fun k => (f.offset, k)
  | none => none

def buildE (P : Program) (t : TypeId) (parts : List (Nat × V)) : Option V :=
  match P.underlying t, zeroT P t with
  | some (.struct fs), some z => if ∀ f ∈ fs.toList, 0 < (sizeT P f.type).getD 0 then (fillC (placesT P fs) z parts).map .agg else none
  | _, _ => none

def fillRows (s : Nat) (rows : List (List C)) : List (Nat × V) → Option (List (List C))
  | [] => some rows
  | (i, v) :: rest => if i < rows.length ∧ v.cells.length = s then fillRows s (rows.set i v.cells) rest else none

/-- How many bytes a slice may take. -/
def most : Nat := 281474976710656

def buildSliceE (P : Program) (h : Hp) (t : TypeId) (len : Nat) (parts : List (Nat × V)) : Option (V × Hp) :=
  match elemT P t with
  | none => none
  | some e =>
    match sizeT P e, zeroT P e with
    | some s, some z =>
      if z.length = s ∧ 0 < s ∧ len * s ≤ 16777216 then
        match fillRows s (List.replicate len z) parts with
        | some rows => some (.one (.ref s h.next 0 len), h.new ⟨s, rows⟩)
        | none => none
      else none
    | _, _ => none

def makeSliceE (P : Program) (h : Hp) (t : TypeId) (len cap : V) : Option (V × Hp) :=
  match elemT P t, len, cap with
  | some e, .one (.lit (.int _ n)), .one (.lit (.int _ m)) =>
    match P.info? e, zeroT P e with
    | some i, some z =>
      if z.length = i.size ∧ 0 < i.size ∧ n = m ∧ 0 ≤ n ∧ i.bytes * n ≤ most ∧ n ≤ 9223372036854775807 then
        some (.one (.ref i.size h.next 0 n.toNat), h.new ⟨i.size, List.replicate n.toNat z⟩)
      else none
    | _, _ => none
  | _, _, _ => none

def Hp.kill (h : Hp) (b : Nat) : Hp := { h with at_ := upd h.at_ b none }

/-- What is appended, as rows. -/
def newRowsE (h : Hp) (t : TypeDesc) (x : V) : Option (List (List C)) :=
  match t, x with
  | .slice _, .one c => rowsE h c
  | _, _ => none

def appendE (P : Program) (h : Hp) (t u : TypeId) (x y : V) : Option (V × Hp) :=
  match elemT P t, P.underlying u with
  | some e, some du =>
    match P.info? e, zeroT P e, newRowsE h du y with
    | some i, some z, some rows =>
      if z.length = i.size ∧ 0 < i.size ∧ (∀ r ∈ rows, r.length = i.size) ∧ 0 < i.bytes then
        match x with
        | .one (.lit (.slice none 0 0)) =>
          if (2 * rows.length + 1024) * i.bytes ≤ most then some (.one (.ref i.size h.next 0 rows.length), h.new ⟨i.size, rows⟩) else none
        | .one (.ref s b off len) =>
          match h.at_ b with
          | some k =>
            if k.s = s ∧ s = i.size ∧ off + len ≤ k.rows.length ∧ (2 * (len + rows.length) + 1024) * i.bytes ≤ most then
              some (.one (.ref s h.next 0 (len + rows.length)), (h.kill b).new ⟨s, (k.rows.drop off).take len ++ rows⟩)
            else none
          | none => none
        | _ => none
      else none
    | _, _, _ => none
  | _, _ => none

def boundE (x : Option V) (d : Nat) : Option Nat :=
  match x with
  | none => some d
  | some (.one (.lit (.int _ j))) => if 0 ≤ j then some j.toNat else none
  | _ => none

def sliceE (P : Program) (t : TypeId) (x : V) (lo hi : Option V) : Option V :=
  match P.underlying t, x with
  | some .string, .one (.lit (.string s)) =>
    match boundE lo 0, boundE hi s.size with
    | some l, some h => if l ≤ h ∧ h ≤ s.size then some (.str (s.extract l h)) else none
    | _, _ => none
  | some (.slice e), .one (.sl s rows) =>
    match boundE lo 0, boundE hi rows.length with
    | some l, some h => if sizeT P e = some s ∧ l ≤ h ∧ h ≤ rows.length then some (.one (.sl s ((rows.drop l).take (h - l)))) else none
    | _, _ => none
  | some (.slice e), .one (.ref s b off len) =>
    match boundE lo 0, boundE hi len with
    | some l, some h => if sizeT P e = some s ∧ l ≤ h ∧ h ≤ len then some (.one (.ref s b (off + l) (h - l))) else none
    | _, _ => none
  | some (.slice e), .one (.lit (.slice none 0 0)) =>
    match boundE lo 0, boundE hi 0 with
    | some l, some h => if (sizeT P e).isSome ∧ l = 0 ∧ h = 0 then some .nilSl else none
    | _, _ => none
  | _, _ => none

def bytesOf : List (List C) → Option (List UInt8)
  | [] => some []
  | [.lit (.int .u8 n)] :: rest => (bytesOf rest).map fun l => UInt8.ofNat n.toNat :: l
  | _ => none

def convertE (P : Program) (h : Hp) (src dst : TypeId) (x : V) : Option (V × Hp) :=
  match P.underlying src, P.underlying dst, x with
  | some (.int _), some (.int k), .one (.lit (.int _ n)) => some (.int k (k.wrap n), h)
  | some .string, some .string, .one (.lit (.string s)) => some (.str s, h)
  | some .string, some (.slice e), .one (.lit (.string s)) =>
    match P.underlying e with
    | some (.int .u8) => some (.one (.ref 1 h.next 0 s.size), h.new ⟨1, s.data.toList.map fun b => [.lit (.int .u8 b.toNat)]⟩)
    | _ => none
  | some (.slice e), some .string, .one c =>
    match P.underlying e, rowsE h c with
    | some (.int .u8), some rows =>
      match bytesOf rows with
      | some l => some (.str ⟨l.toArray⟩, h)
      | none => none
    | _, _ => none
  | _, _, _ => none

def foldMin (f : Int → Int → Int) : V → List V → Option V
  | x, [] => some x
  | .one (.lit (.int k a)), .one (.lit (.int _ b)) :: rest => foldMin f (.int k (f a b)) rest
  | _, _ => none

/-! ### memory made still -/
def mapO {α β : Type} (f : α → Option β) : List α → Option (List β)
  | [] => some []
  | x :: xs =>
    match f x, mapO f xs with
    | some y, some ys => some (y :: ys)
    | _, _ => none

def frzC : (d : Nat) → Hp → C → Option C
  | 0, _, .lit v => some (.lit v)
  | 0, _, .sl s r => some (.sl s r)
  | 0, _, .ip cs => some (.ip cs)
  | 0, _, .fn f [] => some (.fn f [])
  | 0, _, _ => none
  | _ + 1, _, .lit v => some (.lit v)
  | _ + 1, _, .sl s r => some (.sl s r)
  | _ + 1, _, .ip cs => some (.ip cs)
  | _ + 1, _, .fn f [] => some (.fn f [])
  | d + 1, h, .ref s b off len =>
    match h.at_ b with
    | some k => if k.s = s ∧ off + len ≤ k.rows.length then (mapO (mapO (frzC d h)) ((k.rows.drop off).take len)).map (.sl s) else none
    | none => none
  | _ + 1, _, _ => none

mutual
def frzV (d : Nat) (h : Hp) : V → Option V
  | .junk => none
  | .one c => (frzC d h c).map .one
  | .agg cs => (mapO (frzC d h) cs).map .agg
  | .tup vs => (frzVs d h vs).map .tup
def frzVs (d : Nat) (h : Hp) : List V → Option (List V)
  | [] => some []
  | v :: vs =>
    match frzV d h v, frzVs d h vs with
    | some v, some vs => some (v :: vs)
    | _, _ => none
end

/-- The blocks that are seen from a cell itself. -/
def C.seen : C → List Nat
  | .ref _ b _ _ => [b]
  | _ => []
mutual
def V.seen : V → List Nat
  | .junk => []
  | .one c => c.seen
  | .agg cs => cs.flatMap C.seen
  | .tup vs => V.seens vs
def V.seens : List V → List Nat
  | [] => []
  | v :: vs => v.seen ++ V.seens vs
end
def Hp.kills (h : Hp) (l : List Nat) : Hp := { h with at_ := fun b => if b ∈ l then none else h.at_ b }

/-- No memory at all in it. -/
def C.bare : C → Bool
  | .lit _ => true
  | _ => false
mutual
def V.bare : V → Bool
  | .junk => false
  | .one c => c.bare
  | .agg cs => cs.all C.bare
  | .tup vs => V.bares vs
def V.bares : List V → Bool
  | [] => true
  | v :: vs => v.bare && V.bares vs
end

/-- How a call is taken. 'step': in the caller's own heap. 'look': what the callee reads stands still while it runs, its answer has no memory in it. 'plain': nothing that is written is handed over. 'give': what is handed over is still from then on. -/
inductive Mode where
  | step | look | plain | give
  deriving DecidableEq

structure Cfg where
  P : Program
  mode : FuncId → Mode
  call : FuncId → List V → Hp → Option (V × Hp)

def Hp.empty : Hp := ⟨fun _ => none, 0⟩

/-- What a type's cells are: a slice of rows, or anything else. -/
inductive Sh where
  | leaf
  | slc (s : Nat) (es : List Sh)
def Sh.flat : Sh → Bool
  | .leaf => true
  | _ => false

def shT (P : Program) : Nat → TypeId → List Sh
  | 0, _ => []
  | d + 1, t =>
    match P.underlying t with
    | some (.slice e) => [.slc ((sizeT P e).getD 0) (shT P d e)]
    | some (.struct fs) => fs.toList.flatMap fun f => shT P d f.type
    | some (.array _ _) => []
    | _ => [.leaf]

def zipSh (f : Sh → C → C) : List Sh → List C → List C
  | s :: ss, c :: cs => f s c :: zipSh f ss cs
  | _, cs => cs

/-- A slice that is not there is one of no rows. -/
def nrmC : Nat → Sh → C → C
  | 0, _, c => c
  | d + 1, .slc s es, c =>
    match c with
    | .lit (.slice none 0 0) => .sl s []
    | .sl s' rows => if es.all Sh.flat then .sl s' rows else .sl s' (rows.map (zipSh (nrmC d) es))
    | c => c
  | _ + 1, .leaf, c => c

def nrmV (ss : List Sh) : V → V
  | .one c => .one (nrmC 6 (ss.headD .leaf) c)
  | .agg cs => .agg (zipSh (nrmC 6) ss cs)
  | v => v
def nrmVs : List (List Sh) → List V → List V
  | ss :: sss, v :: vs => nrmV ss v :: nrmVs sss vs
  | _, vs => vs
def nrmR (sss : List (List Sh)) (r : V) : V :=
  match sss with
  | [ss] => nrmV ss r
  | _ => match r with | .tup vs => .tup (nrmVs sss vs) | r => r

def parSh (P : Program) (f : FuncId) : List (List Sh) := match P.funcs[f]? with | some fn => fn.params.toList.map (shT P 8) | none => []
def resSh (P : Program) (f : FuncId) : List (List Sh) := match P.funcs[f]? with | some fn => fn.resultTypes.toList.map (shT P 8) | none => []

/-- A call by values alone: nothing but values in, nothing but values out. -/
def Cfg.pureN (c : Cfg) (f : FuncId) (args : List V) : Option V :=
  match c.call f args .empty with
  | some (r, h) =>
    match frzV 6 h r with
    | some r => some (nrmR (resSh c.P f) r)
    | none => none
  | none => none
def Cfg.pure (c : Cfg) (f : FuncId) (args : List V) : Option V := c.pureN f (nrmVs (parSh c.P f) args)

def callE (c : Cfg) (f : FuncId) (args : List V) (h : Hp) : Option (V × Hp) :=
  match c.mode f with
  | .step => c.call f args h
  | .look =>
    match frzVs 6 h args with
    | some as =>
      match c.pure f as with
      | some r => if r.bare then some (r, h) else none
      | none => none
    | none => none
  | .plain =>
    if V.seens args = [] then
      match frzVs 1 h args with
      | some as =>
        match c.pure f as with
        | some r => some (r, h)
        | none => none
      | none => none
    else none
  | .give =>
    match frzVs 1 h args with
    | some as =>
      match c.pure f as with
      | some r => some (r, h.kills (V.seens args))
      | none => none
    | none => none

def capsE : List V → Option (List C)
  | [] => some []
  | .one c :: r => (capsE r).map fun cs => c :: cs
  | _ => none

def opE (c : Cfg) (o : Oper) (σ : St) : Option (V × Hp) :=
  let P := c.P
  let h := σ.hp
  match o.op with
  | .move x => some (σ.eval x, h)
  | .assign x => some (σ.eval x, h)
  | .pick b x y =>
    match σ.eval b with
    | .one (.lit (.bool t)) => some (if t then σ.eval x else σ.eval y, h)
    | _ => none
  | .alloc t =>
    match sizeT P t, zeroT P t with
    | some s, some z => if z.length = s then some (.one (.ptr s h.next 0 0), h.new ⟨s, [z]⟩) else none
    | _, _ => none
  | .box t x =>
    match sizeT P t with
    | some s => if (σ.eval x).cells.length = s then some (.one (.ptr s h.next 0 0), h.new ⟨s, [(σ.eval x).cells]⟩) else none
    | none => none
  | .build t parts => (buildE P t (parts.toList.map fun (i, x) => (i, σ.eval x))).map fun v => (v, h)
  | .buildSlice t len parts => buildSliceE P h t len (parts.toList.map fun (i, x) => (i, σ.eval x))
  | .load t a => (loadE P h t (σ.eval a)).map fun v => (v, h)
  | .store t a x => (storeE P h t (σ.eval a) (σ.eval x)).map fun h' => (.undef, h')
  | .nilCheck x =>
    match σ.eval x with
    | .one (.ptr s b r f) => some (.one (.ptr s b r f), h)
    | .one (.ip cs) => some (.one (.ip cs), h)
    | _ => none
  | .binOp op t x y _ => (binOpE P op t (σ.eval x) (σ.eval y)).map fun v => (v, h)
  | .unOp op _ x => (unOpE op (σ.eval x)).map fun v => (v, h)
  | .convert s d x => convertE P h s d (σ.eval x)
  | .makeFunc (.func f) first captured =>
    if first.size = 0 then (capsE (captured.toList.map σ.eval)).map fun cs => (.one (.fn f cs), h) else none
  | .makeSlice t l k => makeSliceE P h t (σ.eval l) (σ.eval k)
  | .slice t x lo hi none => (sliceE P t (σ.eval x) (lo.map σ.eval) (hi.map σ.eval)).map fun v => (v, h)
  | .fieldAddr t x f => (fieldAddrE P t (σ.eval x) f).map fun v => (v, h)
  | .field t x f => (fieldE P t (σ.eval x) f).map fun v => (v, h)
  | .indexAddr t x i => (indexAddrE P t (σ.eval x) (σ.eval i)).map fun v => (v, h)
  | .index t x i => (indexE P t (σ.eval x) (σ.eval i)).map fun v => (v, h)
  | .extract x i =>
    match σ.eval x with
    | .tup vs => (vs[i]?).map fun v => (v, h)
    | _ => none
  | .call { callee := .builtin .len, args, argTypes } =>
    match args.toList, argTypes.toList with
    | [x], [t] => (lenE P t (σ.eval x)).map fun v => (v, h)
    | _, _ => none
  | .call { callee := .builtin .append, args, argTypes } =>
    match args.toList, argTypes.toList with
    | [x, y], [t, u] => appendE P h t u (σ.eval x) (σ.eval y)
    | _, _ => none
  | .call { callee := .builtin .min, args, .. } =>
    match args.toList.map σ.eval with
    | x :: rest => (foldMin (fun x y => if y < x then y else x) x rest).map fun v => (v, h)
    | [] => none
  | .call { callee := .builtin .max, args, .. } =>
    match args.toList.map σ.eval with
    | x :: rest => (foldMin (fun x y => if y > x then y else x) x rest).map fun v => (v, h)
    | [] => none
  | .call { callee := .value f, args, .. } =>
    match σ.eval f with
    | .one (.fn f caps) => callE c f (args.toList.map σ.eval ++ caps.map .one) h
    | _ => none
  | _ => none

/-- A guard: the bool that operation j left. -/
def guardE (ops : Array Oper) (o : Oper) (σ : St) : Option Bool :=
  match o.guard with
  | none => some true
  | some (j, want) =>
    match (ops[j]?).bind (·.dst) with
    | some d =>
      match σ.env d with
      | .one (.lit (.bool b)) => some (b == want)
      | .tup [] => some false
      | _ => none
    | none => none

def operE (c : Cfg) (ops : Array Oper) (o : Oper) (σ : St) : Option St :=
  match guardE ops o σ with
  | none => none
  | some false => some (σ.put o.dst .undef)
  | some true =>
    match opE c o σ with
    | some (v, h) => some ({ σ with hp := h }.put o.dst v)
    | none => none

def opsE (c : Cfg) (ops : Array Oper) : List Oper → St → Option St
  | [], σ => some σ
  | o :: rest, σ =>
    match operE c ops o σ with
    | some σ' => opsE c ops rest σ'
    | none => none

inductive Ex where
  | normal
  | exit (id : Nat)
  | ret

def roundsE (f : St → Option (Ex × St)) : Nat → St → Option (Ex × St)
  | 0, _ => none
  | n + 1, σ =>
    match f σ with
    | some (.normal, σ') => roundsE f n σ'
    | r => r

/-- Where the order is open: what may come in either order does not meet. -/
def looks (ops : Array Oper) (o : Oper) : List Nat :=
  (o.op.operands.toList.filterMap fun | .tmp t => some t | _ => none) ++
  (match o.guard with | some (j, _) => ((ops[j]?).bind (·.dst)).toList | none => [])

/-- Does it touch memory (1), does it write or take memory away (2)? -/
def touch (mode : FuncId → Mode) : Op → Nat
  | .move _ | .assign _ | .pick .. | .build .. | .nilCheck _ | .binOp .. | .unOp .. | .makeFunc .. | .slice .. | .fieldAddr .. | .field .. | .indexAddr .. | .index .. | .extract .. => 0
  | .alloc _ | .box .. | .buildSlice .. | .load .. | .convert .. | .makeSlice .. => 1
  | .call { callee := .builtin .len, .. } | .call { callee := .builtin .min, .. } | .call { callee := .builtin .max, .. } => 0
  | .call { callee := .value (.func f), .. } => match mode f with | .look => 1 | .plain => 1 | _ => 2
  | _ => 2

def drawOk (mode : FuncId → Mode) (ops : Array Oper) : Bool :=
  let b := Region.before ops
  ops.toList.zipIdx.all fun (o, j) =>
    (o.after.all fun e => !Region.binds .any e || decide (e.on < j)) &&
    ops.toList.zipIdx.all fun (p, i) =>
      if i < j && !(b.getD j 0).testBit i then
        p.dst.all (fun d => !(looks ops o).contains d && o.dst != some d) &&
        o.dst.all (fun d => !(looks ops p).contains d) &&
        (touch mode p.op == 0 || touch mode o.op == 0 || (touch mode p.op == 1 && touch mode o.op == 1))
      else true

def codeE (c : Cfg) (N : Nat) : Code → St → Option (Ex × St)
  | .skip, σ => some (.normal, σ)
  | .label _, σ => some (.normal, σ)
  | .ret, σ => some (.ret, σ)
  | .exit id, σ => some (.exit id, σ)
  | .region _ ops draw, σ =>
    if draw && !drawOk c.mode ops then none else
    match opsE c ops ops.toList σ with
    | some σ' => some (.normal, σ')
    | none => none
  | .seq a b, σ =>
    match codeE c N a σ with
    | some (.normal, σ') => codeE c N b σ'
    | r => r
  | .cond x a b, σ =>
    match σ.eval x with
    | .one (.lit (.bool t)) => if t then codeE c N a σ else codeE c N b σ
    | _ => none
  | .block id a, σ =>
    match codeE c N a σ with
    | some (.exit id', σ') => if id' = id then some (.normal, σ') else some (.exit id', σ')
    | r => r
  | .loop a, σ => roundsE (codeE c N a) N σ
  | _, _ => none

/-- Each temporary that is written is there. -/
def dstOk (n : Nat) : Code → Bool
  | .region _ ops _ => ops.toList.all fun o => match o.dst with | some d => decide (d < n) | none => true
  | .seq a b => dstOk n a && dstOk n b
  | .cond _ a b => dstOk n a && dstOk n b
  | .block _ a => dstOk n a
  | .loop a => dstOk n a
  | _ => true

def resultE (P : Program) (σ : St) : ResultVar → Option V
  | .tmp t => some (σ.env t)
  | .cell a t => loadE P σ.hp t (σ.env a)

def resultsE (P : Program) (σ : St) : List ResultVar → Option (List V)
  | [] => some []
  | r :: rs =>
    match resultE P σ r, resultsE P σ rs with
    | some v, some vs => some (v :: vs)
    | _, _ => none

def joinV : List V → V
  | [v] => v
  | vs => .tup vs

def envOf (args : List V) : Nat → V := fun t => args.getD t .undef

def funcE (c : Cfg) (N : Nat) (f : FuncId) (args : List V) (h : Hp) : Option (V × Hp) :=
  match c.P.funcs[f]? with
  | some fn =>
    match fn.body with
    | some body =>
      if fn.name = "runtime.NumGoroutine" ∨ fn.ntmps < args.length ∨ dstOk fn.ntmps body = false then none else
      match codeE c N body ⟨envOf args, h⟩ with
      | some (.normal, σ) | some (.ret, σ) =>
        match resultsE c.P σ fn.results.toList with
        | some vs => some (joinV vs, σ.hp)
        | none => none
      | _ => none
    | none => none
  | none => none

/-- What a program's functions answer: n calls deep, N rounds a loop. -/
def run (P : Program) (mode : FuncId → FuncId → Mode) (ext : FuncId → Option (List V → Hp → Option (V × Hp))) (N : Nat) : Nat → FuncId → List V → Hp → Option (V × Hp)
  | 0, _, _, _ => none
  | n + 1, f, args, h =>
    match ext f with
    | some g => g args h
    | none => funcE ⟨P, mode f, run P mode ext N n⟩ N f args h

end Go.Ev
