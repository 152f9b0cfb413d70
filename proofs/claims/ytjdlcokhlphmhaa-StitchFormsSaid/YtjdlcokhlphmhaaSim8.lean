/-
  Operations on memory.
-/
import Derived.Test.YtjdlcokhlphmhaaSim7
namespace Go.Sim

inductive LOp where
  | load (agg : Bool) (n : Nat) (a : Operand)
  | b2s (x : Operand)
  | lookup (ok : Bool) (zero : Value) (m k : Operand)

inductive EOp where
  | store (n : Nat) (a v : Operand)
  | box (e : TypeId) (x : Operand)
  | alloc (e : TypeId) (zs : List Value)
  | mkSl (e : TypeId) (n : Nat) (zs : List Value) (parts : List (Nat × Nat × Operand))
  | make (e : TypeId) (bytes : Nat) (zs : List Value) (l c : Operand)
  | app (e : TypeId) (esz bytes : Nat) (s x : Operand)
  | mkMap
  | mupd (m k v : Operand)

def objCells (h : Heap) (i : Nat) : Option (List Value) :=
  match h[i]? with
  | some (.ro _ xs) => some xs
  | some (.arr _ xs) => some xs
  | _ => none

def iLoad (agg : Bool) (n : Nat) (h : Heap) (a : Value) : Option Value :=
  match a with
  | .pointer (some ⟨i, o, none⟩) => (objCells h i).bind fun xs => iPart agg o n xs
  | _ => none

def byteOf1 : Value → Option UInt8
  | .int .u8 n => some (UInt8.ofNat n.toNat)
  | _ => none

/-- The cells of a slice. -/
def sliceCells (h : Heap) (esz : Nat) (x : Value) : Option (List Value) :=
  match x with
  | .slice none _ _ => some []
  | .slice (some ⟨i, o, some _⟩) n _ =>
    if n = 0 then some [] else (objCells h i).bind fun xs => if o + n * esz ≤ xs.length then some ((xs.drop o).take (n * esz)) else none
  | _ => none

def iB2s (h : Heap) (x : Value) : Option Value := (sliceCells h 1 x).bind fun cs => (cs.mapM byteOf1).map S

def findS (k : ByteArray) : List (ByteArray × Value) → Option Value
  | [] => none
  | (k', v) :: es => if k = k' then some v else findS k es

def setS (k : ByteArray) (v : Value) : List (ByteArray × Value) → List (ByteArray × Value)
  | [] => [(k, v)]
  | (k', v') :: es => if k = k' then (k', v) :: es else (k', v') :: setS k v es

def iLookup (ok : Bool) (zero : Value) (h : Heap) (m k : Value) : Option Value :=
  match m, k with
  | .map (some i), .string k =>
    match h[i]? with
    | some (.smap es) => some (if ok then .tuple #[(findS k es).getD zero, .bool (findS k es).isSome] else (findS k es).getD zero)
    | _ => none
  | _, _ => none

def iload (o : LOp) (g : Operand → Value) (h : Heap) : Option Value :=
  match o with
  | .load agg n a => iLoad agg n h (g a)
  | .b2s x => iB2s h (g x)
  | .lookup ok zero m k => iLookup ok zero h (g m) (g k)

def iStore (n : Nat) (h : Heap) (a v : Value) : Option Heap :=
  match a with
  | .pointer (some ⟨i, o, none⟩) =>
    match h[i]? with
    | some (.arr e xs) => if noTuple v ∧ (vcells v).length = n ∧ o + n ≤ xs.length then some (h.set i (.arr e (setAt xs o (vcells v)))) else none
    | _ => none
  | _ => none

def newPtr (h : Heap) : Value := .pointer (some ⟨h.length, 0, none⟩)
def sl (e : TypeId) (i o n : Nat) : Value := .slice (some ⟨i, o, some e⟩) n n

def iBox (e : TypeId) (h : Heap) (x : Value) : Option (Value × Heap) := if noTuple x then some (newPtr h, h ++ [.arr e (vcells x)]) else none

/-- Some zero values, one behind the other. -/
def zrep (zs : List Value) (n : Nat) : List Value := (List.replicate n zs).flatten

def iMkSl (e : TypeId) (n : Nat) (zs : List Value) (h : Heap) (ps : List (Nat × Nat × Value)) : Option (Value × Heap) :=
  (fillL (zrep zs n) ps).map fun cs => (sl e h.length 0 n, h ++ [.arr e cs])

def iMake (e : TypeId) (bytes : Nat) (zs : List Value) (h : Heap) (l c : Value) : Option (Value × Heap) :=
  match l, c with
  | .int _ l, .int _ c => if 0 ≤ l ∧ l ≤ c ∧ (bytes : Int) * c ≤ 281474976710656 ∧ c ≤ 9223372036854775807 then some (sl e h.length 0 l.toNat, h ++ [.arr e (zrep zs l.toNat)]) else none
  | _, _ => none

def lenOfSl : Value → Option Nat
  | .slice none 0 0 => some 0
  | .slice (some _) n _ => some n
  | _ => none

def iApp (e : TypeId) (esz bytes : Nat) (h : Heap) (s x : Value) : Option (Value × Heap) :=
  match sliceCells h esz x, lenOfSl x with
  | some news, some m =>
    match s with
    | .slice none 0 0 =>
      if m = 0 then some (s, h) else
      if m * bytes ≤ 140737488355328 ∧ m ≤ maxLen then some (sl e h.length 0 m, h ++ [.arr e news]) else none
    | .slice (some ⟨i, 0, some e'⟩) n _ =>
      match h[i]? with
      | some (.arr e'' xs) =>
        if e' = e ∧ e'' = e ∧ xs.length = n * esz ∧ (n + m) * bytes ≤ 140737488355328 ∧ n + m ≤ maxLen then
          if m = 0 then some (s, h) else some (sl e h.length 0 (n + m), h.set i .dead ++ [.arr e (xs ++ news)])
        else none
      | _ => none
    | _ => none
  | _, _ => none

def iMupd (h : Heap) (m k v : Value) : Option Heap :=
  match m, k with
  | .map (some i), .string k =>
    match h[i]? with
    | some (.smap es) => some (h.set i (.smap (setS k v es)))
    | _ => none
  | _, _ => none

def oStore (n : Nat) (h : Heap) (a v : Value) : Option (Value × Heap) := (iStore n h a v).map fun h' => (undef, h')
def oMupd (h : Heap) (m k v : Value) : Option (Value × Heap) := (iMupd h m k v).map fun h' => (undef, h')
def iAlloc (e : TypeId) (zs : List Value) (h : Heap) : Option (Value × Heap) := some (newPtr h, h ++ [.arr e zs])
def iMkMap (h : Heap) : Option (Value × Heap) := some (.map (some h.length), h ++ [.smap []])

def ieff (o : EOp) (g : Operand → Value) (h : Heap) : Option (Value × Heap) :=
  match o with
  | .store n a v => (iStore n h (g a) (g v)).map fun h' => (undef, h')
  | .box e x => iBox e h (g x)
  | .alloc e zs => some (newPtr h, h ++ [.arr e zs])
  | .mkSl e n zs ps => iMkSl e n zs h (ps.map fun (o, s, x) => (o, s, g x))
  | .make e bytes zs l c => iMake e bytes zs h (g l) (g c)
  | .app e esz bytes s x => iApp e esz bytes h (g s) (g x)
  | .mkMap => some (.map (some h.length), h ++ [.smap []])
  | .mupd m k v => (iMupd h (g m) (g k) (g v)).map fun h' => (undef, h')

/-- A type's zero value, if it is one closed cell. -/
def zero1 (P : Program) (t : TypeId) : Option Value :=
  match P.info? t with
  | some i => match i.zero with
    | some z => if cellOk z then some z else none
    | none => none
  | none => none

def isString (P : Program) (t : TypeId) : Bool := match P.underlying t with | some .string => true | _ => false

def compL (P : Program) : Op → Option LOp
  | .load t a =>
    match P.underlying t with
    | some d => if infoOk P t && (isAggD d || P.cellsOf t == 1) then some (.load (isAggD d) (P.cellsOf t) a) else none
    | none => none
  | .convert s d x =>
    match P.underlying s, P.underlying d with
    | some (.slice e), some .string => match P.underlying e with | some (.int .u8) => some (.b2s x) | _ => none
    | _, _ => none
  | .lookup t m k ok =>
    match P.underlying t with
    | some (.map kt et) => if isString P kt then (zero1 P et).map fun z => .lookup ok z m k else none
    | _ => none
  | _ => none

def compE (P : Program) : Op → Option EOp
  | .store t a v => if infoOk P t then some (.store (P.cellsOf t) a v) else none
  | .box e x => some (.box e x)
  | .alloc e => (zeroOf P e).map fun zs => .alloc e zs
  | .buildSlice t n ps =>
    match P.underlying t with
    | some (.slice e) =>
      match zeroOf P e with
      | some zs => if n * P.cellsOf e ≤ 16777216 ∧ P.cellsOf e ≠ 0 then some (.mkSl e n zs (ps.toList.map fun (i, x) => (i * P.cellsOf e, P.cellsOf e, x))) else none
      | none => none
    | _ => none
  | .makeSlice t l c =>
    match P.underlying t with
    | some (.slice e) =>
      match zeroOf P e with
      | some zs => some (.make e (P.bytesOf e) zs l c)
      | none => none
    | _ => none
  | .call { callee := .builtin .append, args, argTypes } =>
    match args.toList, argTypes.toList with
    | [s, x], [t, t'] =>
      if t = t' then
        match P.underlying t with
        | some (.slice e) =>
          match zeroOf P e with
          | some _ => some (.app e (P.cellsOf e) (P.bytesOf e) s x)
          | none => none
        | _ => none
      else none
    | _, _ => none
  | .makeMap _ none => some .mkMap
  | .mapUpdate t m k v | .insert t m k v =>
    match P.underlying t with
    | some (.map kt _) => if isString P kt then some (.mupd m k v) else none
    | _ => none
  | _ => none

end Go.Sim
