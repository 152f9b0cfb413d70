/-
  Operations that look at no memory: what they are in the ideal machine, and that the model does the same.
-/
import Derived.Test.YtjdlcokhlphmhaaSim1
namespace Go.Sim

/-- A string by its bytes. -/
def S (l : List UInt8) : Value := .string ⟨l.toArray⟩
def bytes (s : ByteArray) : List UInt8 := s.data.toList

theorem bytes_mk (l : List UInt8) : bytes ⟨l.toArray⟩ = l := by simp [bytes]
theorem mk_bytes (s : ByteArray) : (⟨(bytes s).toArray⟩ : ByteArray) = s := by simp [bytes]
theorem S_bytes (s : ByteArray) : S (bytes s) = .string s := by simp [S, mk_bytes]
theorem S_inj {a b : List UInt8} (h : S a = S b) : a = b := by
  simp [S] at h
  exact h

inductive POp where
  | mv (x : Operand)
  | pick (c a b : Operand)
  | bin (op : BinOp) (x y : Operand)
  | eqb (neg : Bool) (x y : Operand)
  | eqnil (neg : Bool) (x y : Operand)
  | un (op : UnOp) (x : Operand)
  | conv (k : IntKind) (x : Operand)
  | sid (x : Operand)
  | lenS (x : Operand)
  | lenSl (x : Operand)
  | lenArr (n : Nat)
  | minmax (mx : Bool) (xs : List Operand)
  | idxS (x i : Operand)
  | idxA (n esz : Nat) (agg : Bool) (x i : Operand)
  | adrSl (esz : Nat) (x i : Operand)
  | adrArr (n esz : Nat) (x i : Operand)
  | fadr (off : Nat) (x : Operand)
  | fld (agg : Bool) (off sz : Nat) (x : Operand)
  | slS (x : Operand) (lo hi : Option Operand)
  | slSl (e : TypeId) (esz : Nat) (x : Operand) (lo hi : Option Operand)
  | nilck (x : Operand)
  | fn (f : FuncId) (first captured : List Operand)
  | ext (x : Operand) (i : Nat)
  | build (zero : List Value) (parts : List (Nat × Nat × Operand))

def iInt (op : BinOp) (k : IntKind) (a b : Int) : Option Value :=
  match op with
  | .add => some (.int k (k.wrap (a + b)))
  | .sub => some (.int k (k.wrap (a - b)))
  | .mul => some (.int k (k.wrap (a * b)))
  | .quo => if b = 0 then none else some (.int k (k.wrap (a.tdiv b)))
  | .rem => if b = 0 then none else some (.int k (a.tmod b))
  | .and => some (.int k (k.wrap (BitVec.ofInt k.bits a &&& BitVec.ofInt k.bits b).toNat))
  | .or => some (.int k (k.wrap (BitVec.ofInt k.bits a ||| BitVec.ofInt k.bits b).toNat))
  | .xor => some (.int k (k.wrap (BitVec.ofInt k.bits a ^^^ BitVec.ofInt k.bits b).toNat))
  | .andNot => some (.int k (k.wrap (BitVec.ofInt k.bits a &&& ~~~BitVec.ofInt k.bits b).toNat))
  | .eql => some (.bool (decide (a = b)))
  | .neq => some (.bool (!decide (a = b)))
  | .lss => some (.bool (decide (a < b)))
  | .leq => some (.bool (decide (a ≤ b)))
  | .gtr => some (.bool (decide (b < a)))
  | .geq => some (.bool (decide (b ≤ a)))
  | _ => none

def iShift (op : BinOp) (k : IntKind) (a b : Int) : Option Value :=
  if b < 0 then none else
  match op with
  | .shl => some (.int k (k.wrap (a * 2 ^ (min b.toNat k.bits))))
  | .shr => some (.int k (a.fdiv (2 ^ (min b.toNat k.bits))))
  | _ => none

def iStr (op : BinOp) (a b : List UInt8) : Option Value :=
  match op with
  | .add => if a.length + b.length ≤ maxLen then some (S (a ++ b)) else none
  | .eql => some (.bool (decide (a = b)))
  | .neq => some (.bool (!decide (a = b)))
  | .lss => some (.bool (Op.bytesLess a b))
  | .leq => some (.bool (Op.bytesLess a b || decide (a = b)))
  | .gtr => some (.bool (!(Op.bytesLess a b || decide (a = b))))
  | .geq => some (.bool (!Op.bytesLess a b))
  | _ => none

def iBin (op : BinOp) (x y : Value) : Option Value :=
  match x, y with
  | .int k a, .int k' b =>
    match op with
    | .shl => iShift .shl k a b
    | .shr => iShift .shr k a b
    | op => if k = k' then iInt op k a b else none
  | .string s, .string t => iStr op (bytes s) (bytes t)
  | _, _ => none

def iEqb (neg : Bool) (x y : Value) : Option Value :=
  match x, y with
  | .bool a, .bool b => some (.bool (if neg then !(a == b) else a == b))
  | _, _ => none

def isNilSlice : Value → Option Bool
  | .slice none _ _ => some true
  | .slice (some _) _ _ => some false
  | _ => none

def iEqnil (neg : Bool) (x y : Value) : Option Value :=
  match isNilSlice x, isNilSlice y with
  | some a, some b => if a || b then some (.bool (if neg then !(a && b) else a && b)) else none
  | _, _ => none

def iUn (op : UnOp) (x : Value) : Option Value :=
  match op, x with
  | .neg, .int k n => some (.int k (k.wrap (0 - n)))
  | .not, .bool b => some (.bool !b)
  | .xor, .int k n => some (.int k (k.wrap (BitVec.ofInt k.bits (if k.signed then -1 else k.max) ^^^ BitVec.ofInt k.bits n).toNat))
  | _, _ => none

def iConv (k : IntKind) : Value → Option Value
  | .int _ n => some (.int k (k.wrap n))
  | _ => none

def iSid : Value → Option Value
  | .string s => some (.string s)
  | _ => none

def iLenS : Value → Option Value
  | .string s => some (.int .i64 (bytes s).length)
  | _ => none

def iLenSl : Value → Option Value
  | .slice _ n _ => some (.int .i64 n)
  | _ => none

def max2 (mx : Bool) : Value → Value → Option Value
  | .int k x, .int _ y => some (.int k (if mx then (if y > x then y else x) else (if y < x then y else x)))
  | _, _ => none

def iMinmax (mx : Bool) : List Value → Option Value
  | .int k x :: rest => rest.foldlM (max2 mx) (.int k x)
  | _ => none

def iIdxS (x i : Value) : Option Value :=
  match x, i with
  | .string s, .int _ i => if 0 ≤ i then ((bytes s)[i.toNat]?).map fun b => .int .u8 b.toNat else none
  | _, _ => none

/-- A part of an aggregate. -/
def iPart (agg : Bool) (off sz : Nat) (cs : List Value) : Option Value :=
  if agg then (if off + sz ≤ cs.length then some (.agg ((cs.drop off).take sz).toArray) else none) else cs[off]?

def iIdxA (n esz : Nat) (agg : Bool) (x i : Value) : Option Value :=
  match x, i with
  | .agg cs, .int _ i => if 0 ≤ i ∧ i < n then iPart agg (i.toNat * esz) esz cs.toList else none
  | _, _ => none

def iAdrSl (esz : Nat) (x i : Value) : Option Value :=
  match x, i with
  | .slice (some ⟨id, o, some _⟩) n _, .int _ i => if 0 ≤ i ∧ i < n then some (.pointer (some ⟨id, o + i.toNat * esz, none⟩)) else none
  | _, _ => none

def iAdrArr (n esz : Nat) (x i : Value) : Option Value :=
  match x, i with
  | .pointer (some ⟨id, o, none⟩), .int _ i => if 0 ≤ i ∧ i < n then some (.pointer (some ⟨id, o + i.toNat * esz, none⟩)) else none
  | _, _ => none

def iFadr (off : Nat) (x : Value) : Option Value :=
  match x with
  | .pointer (some ⟨id, o, none⟩) => some (.pointer (some ⟨id, o + off, none⟩))
  | _ => none

def iFld (agg : Bool) (off sz : Nat) (x : Value) : Option Value :=
  match x with
  | .agg cs => iPart agg off sz cs.toList
  | _ => none

def natOf : Value → Option Nat
  | .int _ i => if 0 ≤ i then some i.toNat else none
  | _ => none

/-- The bounds of a slice expression. -/
def iBounds (n : Nat) (lo hi : Option Value) : Option (Nat × Nat) :=
  match (match lo with | none => some 0 | some v => natOf v), (match hi with | none => some n | some v => natOf v) with
  | some l, some h => if l ≤ h ∧ h ≤ n then some (l, h) else none
  | _, _ => none

def iSlS (x : Value) (lo hi : Option Value) : Option Value :=
  match x with
  | .string s => (iBounds (bytes s).length lo hi).map fun (l, h) => S (((bytes s).take h).drop l)
  | _ => none

def iSlSl (e : TypeId) (esz : Nat) (x : Value) (lo hi : Option Value) : Option Value :=
  match x with
  | .slice none 0 0 => (iBounds 0 lo hi).map fun _ => .slice none 0 0
  | .slice (some ⟨id, o, some e'⟩) n _ =>
    if e' = e then (iBounds n lo hi).map fun (l, h) => .slice (some ⟨id, o + l * esz, some e⟩) (h - l) (h - l) else none
  | _ => none

def iNilck (x : Value) : Option Value :=
  match x with
  | .pointer (some a) => some (.pointer (some a))
  | .func f a b => some (.func f a b)
  | _ => none

def iExt (i : Nat) (x : Value) : Option Value :=
  match x with
  | .tuple vs => vs[i]?
  | _ => none

/-- The list with some cells replaced. -/
def setAt (xs : List Value) (o : Nat) (vs : List Value) : List Value := xs.take o ++ vs ++ xs.drop (o + vs.length)

def fillL : List Value → List (Nat × Nat × Value) → Option (List Value)
  | xs, [] => some xs
  | xs, (off, size, v) :: rest =>
    if noTuple v ∧ (vcells v).length = size ∧ off + size ≤ xs.length then fillL (setAt xs off (vcells v)) rest else none

def iBuild (zero : List Value) (parts : List (Nat × Nat × Value)) : Option Value := (fillL zero parts).map fun cs => .agg cs.toArray

def iPick (c a b : Value) : Option Value :=
  match c with
  | .bool t => some (if t then a else b)
  | _ => none

def ipure (o : POp) (g : Operand → Value) : Option Value :=
  match o with
  | .mv x => some (g x)
  | .pick c a b => iPick (g c) (g a) (g b)
  | .bin op x y => iBin op (g x) (g y)
  | .eqb neg x y => iEqb neg (g x) (g y)
  | .eqnil neg x y => iEqnil neg (g x) (g y)
  | .un op x => iUn op (g x)
  | .conv k x => iConv k (g x)
  | .sid x => iSid (g x)
  | .lenS x => iLenS (g x)
  | .lenSl x => iLenSl (g x)
  | .lenArr n => some (.int .i64 n)
  | .minmax mx xs => iMinmax mx (xs.map g)
  | .idxS x i => iIdxS (g x) (g i)
  | .idxA n esz agg x i => iIdxA n esz agg (g x) (g i)
  | .adrSl esz x i => iAdrSl esz (g x) (g i)
  | .adrArr n esz x i => iAdrArr n esz (g x) (g i)
  | .fadr off x => iFadr off (g x)
  | .fld agg off sz x => iFld agg off sz (g x)
  | .slS x lo hi => iSlS (g x) (lo.map g) (hi.map g)
  | .slSl e esz x lo hi => iSlSl e esz (g x) (lo.map g) (hi.map g)
  | .nilck x => iNilck (g x)
  | .fn f first captured => some (.func (.func f) (first.map g).toArray (captured.map g).toArray)
  | .ext x i => iExt i (g x)
  | .build zero parts => iBuild zero (parts.map fun (o, s, x) => (o, s, g x))

/-- What a type's values take, and whether they are aggregates. -/
def isAggD : TypeDesc → Bool
  | .struct _ | .array _ _ => true
  | _ => false

def cellOk (v : Value) : Bool := cvOk v && isCell v

/-- The zero cells of a type, if they are closed. -/
def zeroOf (P : Program) (t : TypeId) : Option (List Value) :=
  match P.info? t with
  | some i => match i.zero with
    | some z => if noTuple z && (vcells z).all cellOk && (vcells z).length == i.size then some (vcells z) else none
    | none => none
  | none => none

def placesOf (P : Program) (fs : Array Field) : List (Nat × Nat) := fs.toList.map fun f => (f.offset, P.cellsOf f.type)

def infoOk (P : Program) (t : TypeId) : Bool := (P.info? t).isSome

def compP (P : Program) : Op → Option POp
  | .move x | .assign x => some (.mv x)
  | .pick c a b => some (.pick c a b)
  | .binOp op t x y _ =>
    match op, P.underlying t with
    | .eql, some .bool => some (.eqb false x y)
    | .neq, some .bool => some (.eqb true x y)
    | .eql, some (.slice _) => some (.eqnil false x y)
    | .neq, some (.slice _) => some (.eqnil true x y)
    | op, _ => some (.bin op x y)
  | .unOp op _ x => some (.un op x)
  | .convert s d x =>
    match P.underlying s, P.underlying d with
    | some (.int _), some (.int k) => some (.conv k x)
    | some .string, some .string => some (.sid x)
    | _, _ => none
  | .call { callee := .builtin .len, args, argTypes } =>
    match args.toList, argTypes.toList with
    | [x], [t] =>
      match P.underlying t with
      | some .string => some (.lenS x)
      | some (.slice _) => some (.lenSl x)
      | some (.array n _) => some (.lenArr n)
      | _ => none
    | _, _ => none
  | .call { callee := .builtin .min, args, argTypes := _ } => some (.minmax false args.toList)
  | .call { callee := .builtin .max, args, argTypes := _ } => some (.minmax true args.toList)
  | .index t x i =>
    match P.underlying t with
    | some .string => some (.idxS x i)
    | some (.array n e) =>
      match P.underlying e with
      | some d => if infoOk P e && (isAggD d || P.cellsOf e == 1) then some (.idxA n (P.cellsOf e) (isAggD d) x i) else none
      | none => none
    | _ => none
  | .indexAddr t x i =>
    match P.underlying t with
    | some (.slice e) => if infoOk P e then some (.adrSl (P.cellsOf e) x i) else none
    | some (.array n e) => if infoOk P e then some (.adrArr n (P.cellsOf e) x i) else none
    | _ => none
  | .fieldAddr t x f =>
    match P.underlying t with
    | some (.struct fs) =>
      match fs[f]? with
      | some fd => if infoOk P fd.type && P.cellsOf fd.type != 0 then some (.fadr fd.offset x) else none
      | none => none
    | _ => none
  | .field t x f =>
    match P.underlying t with
    | some (.struct fs) =>
      match fs[f]? with
      | some fd =>
        match P.underlying fd.type with
        | some d => if infoOk P fd.type && (isAggD d || P.cellsOf fd.type == 1) then some (.fld (isAggD d) fd.offset (P.cellsOf fd.type) x) else none
        | none => none
      | none => none
    | _ => none
  | .slice t x lo hi mx =>
    match P.underlying t, mx with
    | some .string, none => some (.slS x lo hi)
    | some (.slice e), none => if infoOk P e then some (.slSl e (P.cellsOf e) x lo hi) else none
    | _, _ => none
  | .nilCheck x => some (.nilck x)
  | .makeFunc (.func f) first captured => some (.fn f first.toList captured.toList)
  | .extract x i => some (.ext x i)
  | .build t parts =>
    match P.underlying t, zeroOf P t with
    | some (.struct fs), some z =>
      if fs.all fun f => infoOk P f.type then
        match parts.toList.mapM (m := Option) fun (i, x) => (placesOf P fs)[i]? |>.map fun (o, s) => (o, s, x) with
        | some ps => some (.build z ps)
        | none => none
      else none
    | some (.array _ e), some z => if infoOk P e then some (.build z (parts.toList.map fun (i, x) => (i * P.cellsOf e, P.cellsOf e, x))) else none
    | _, _ => none
  | _ => none

end Go.Sim
