/-
  The ideal machine: code without open orders.
-/
import Derived.Test.YtjdlcokhlphmhaaSim13
namespace Go.Sim

inductive IOp where
  | p (o : POp)
  | l (o : LOp)
  | e (o : EOp)
  | call (f : FuncId) (args : List Operand)
  | callv (x : Operand) (args : List Operand)

structure IOper where
  dst : Option Nat
  op : IOp
  guard : Option (Nat × Bool)

/-- An operation of a group: its guard is the group's. -/
structure GOper where
  dst : Option Nat
  op : IOp

/-- An operation of a region whose order is open; 'pre': the operations that come before it in every order. -/
structure DOper where
  op : IOper
  pre : Nat

structure GDOper where
  dst : Option Nat
  op : IOp
  pre : Nat

inductive ICode where
  | skip
  | dops (l : List (Option (Nat × Bool) × List GDOper))
  | ops (g : Option (Nat × Bool)) (l : List GOper)
  | seq (a b : ICode)
  | cut (ls : List Nat) (c : ICode)
  | cond (c : Operand) (a b : ICode)
  | block (id : Nat) (c : ICode)
  | loop (ks ls : List Nat) (c : ICode)
  | exit (id : Nat)
  | ret
  | range (g : Operand) (ls : List Nat) (c : LoopC)

/-- A fence that is wide, in a round or out of one. -/
abbrev FR (R : Option Nat) : Fence := { Fence.wide with round := R }

/-- A call in the ideal machine: whatever the model's state that is related, the model's call returns in a related state. -/
def ICall (P : Program) (F : FuncId) (args : List Value) (h : Heap) (v : Value) (h' : Heap) : Prop :=
  ∀ (ρ : RMap) (args' : Array Value) (w : World), VsRel ρ args args'.toList → HRel P ρ h w →
    Calls P F args' w fun e w' => ∃ v' ρ', e = .returned v' ∧ VRel ρ' v v' ∧ HRel P ρ' h' w' ∧ Tr ρ h w ρ' h' w'

def icall (P : Program) (F : FuncId) (args : List Value) (h : Heap) (K : Value → Heap → Prop) : Prop := ∃ v h', ICall P F args h v h' ∧ K v h'

theorem icall.mono {P : Program} {F : FuncId} {args : List Value} {h : Heap} {K K' : Value → Heap → Prop} (hc : icall P F args h K) (hk : ∀ v h', K v h' → K' v h') : icall P F args h K' :=
  let ⟨v, h', a, b⟩ := hc; ⟨v, h', a, hk v h' b⟩

/-- A round of a range over a function, as yield's caller sees it. -/
def IYield (P : Program) (i : Nat) (args : List Value) (h : Heap) (v : Value) (h' : Heap) : Prop :=
  ∀ (ρ : RMap) (r : RI) (args' : Array Value) (w : World), ρ i = some r → VsRel ρ args args'.toList → HRel P ρ h w →
    ∃ fn tmps asg body, (Instr.yield r.blk args').run P w = .ok (.round r.blk fn tmps asg body) w ∧
      RoundIn Fence.wide 0 P r.blk fn tmps asg body w fun e w' => ∃ v' ρ', e = .returned v' ∧ VRel ρ' v v' ∧ HRel P ρ' h' w' ∧ Tr ρ h w ρ' h' w'

def iyield (P : Program) (i : Nat) (args : List Value) (h : Heap) (K : Value → Heap → Prop) : Prop := ∃ v h', IYield P i args h v h' ∧ K v h'

theorem iyield.mono {P : Program} {i : Nat} {args : List Value} {h : Heap} {K K' : Value → Heap → Prop} (hc : iyield P i args h K) (hk : ∀ v h', K v h' → K' v h') : iyield P i args h K' :=
  let ⟨v, h', a, b⟩ := hc; ⟨v, h', a, hk v h' b⟩

/-- A function that can be called: it has a body. -/
def callOk (P : Program) (f : FuncId) : Bool :=
  match P.funcs[f]? with
  | some fn => fn.name != "runtime.NumGoroutine" && fn.body.isSome
  | none => false

def oletP (o : Option Value) (K : Value → Prop) : Prop :=
  match o with
  | some v => K v
  | none => False

def oletH (o : Option (Value × Heap)) (K : Value → Heap → Prop) : Prop :=
  match o with
  | some (v, h') => K v h'
  | none => False

def callV (P : Program) (x : Value) (args : List Value) (h : Heap) (K : Value → Heap → Prop) : Prop :=
  match x with
  | .func (.func g) first cap => callOk P g = true ∧ icall P g (first.toList ++ args ++ cap.toList) h K
  | .func (.yield i) first cap => (first = #[] ∧ cap = #[]) ∧ iyield P i args h K
  | _ => False

/-- A range over a function: the iterator is called, the loop being an object. -/
def rangeK (P : Program) (g : Value) (ls : List Nat) (vs : List Value) (c : LoopC) (h : Heap) (K : Heap → Prop) : Prop :=
  match g with
  | .func (.func F) first cap => callOk P F = true ∧ icall P F (first.toList ++ [.func (.yield h.length) #[] #[]] ++ cap.toList) (h ++ [.loop c ls vs]) fun _ h' =>
      (∃ c' ls' vs', h'[h.length]? = some (.loop c' ls' vs')) ∧ K (h'.set h.length .dead)
  | _ => False

def stepK (P : Program) (o : IOp) (f : Nat → Value) (h : Heap) (K : Value → Heap → Prop) : Prop :=
  match o with
  | .p o => oletP (ipure o (ev f)) fun v => K v h
  | .l o => oletP (iload o (ev f) h) fun v => K v h
  | .e o => oletH (ieff o (ev f) h) K
  | .call g args => icall P g (args.map (ev f)) h K
  | .callv x args => callV P (ev f x) (args.map (ev f)) h K

def isB (v : Value) (b : Bool) : Bool :=
  match v with
  | .bool c => c == b
  | _ => false

def isBot : Value → Bool
  | .complex _ _ _ => true
  | _ => false

def wantB (g : Option (Nat × Bool)) (f : Nat → Value) : Bool :=
  match g with
  | none => true
  | some (s, b) => isB (f s) b

/-- A guard: the slot must be known. -/
def guardK (v : Value) (b : Bool) (A B : Prop) : Prop :=
  match v with
  | .bool c => if (c == b) = true then A else B
  | .complex _ _ _ => False
  | _ => B

def updO (f : Nat → Value) (d : Option Nat) (v : Value) : Nat → Value :=
  match d with
  | some d => upd f d v
  | none => f

/-- Operations one by one, each with its guard. -/
def iops (P : Program) : List IOper → ((Nat → Value) → Heap → Prop) → (Nat → Value) → Heap → Prop
  | [], K, f, h => K f h
  | o :: os, K, f, h =>
    match o.guard with
    | none => stepK P o.op f h fun v h' => iops P os K (updO f o.dst v) h'
    | some (s, b) => guardK (f s) b (stepK P o.op f h fun v h' => iops P os K (updO f o.dst v) h') (iops P os K (updO f o.dst undef) h)

/-- A group of operations. -/
def gops (P : Program) : List GOper → ((Nat → Value) → Heap → Prop) → (Nat → Value) → Heap → Prop
  | [], K, f, h => K f h
  | o :: os, K, f, h => stepK P o.op f h fun v h' => gops P os K (updO f o.dst v) h'

def undefs : List GOper → (Nat → Value) → (Nat → Value)
  | [], f => f
  | o :: os, f => undefs os (updO f o.dst undef)

def opsK (P : Program) (g : Option (Nat × Bool)) (l : List GOper) (K : (Nat → Value) → Heap → Prop) (f : Nat → Value) (h : Heap) : Prop :=
  match g with
  | none => gops P l K f h
  | some (s, b) => guardK (f s) b (gops P l K f h) (K (undefs l f) h)

def IOp.isE : IOp → Bool
  | .p _ => false
  | .l _ => false
  | _ => true

abbrev Loads := List (Nat × LOp × (Nat → Value) × Value)

def chkPast (pre : Nat) (lo : LOp) (f : Nat → Value) (v : Value) : List (Nat × Heap) → Prop
  | [] => True
  | (e, H) :: r => if pre.testBit e = true then chkPast pre lo f v r else iload lo (ev f) H = some v ∧ chkPast pre lo f v r

def chkFut (pre : Nat) (H : Heap) : Loads → Prop
  | [] => True
  | (j, lo, f, v) :: r => if pre.testBit j = true then chkFut pre H r else iload lo (ev f) H = some v ∧ chkFut pre H r

def dwant (P : Program) (io : IOp) (pre j : Nat) (heaps : List (Nat × Heap)) (loads : Loads) (f : Nat → Value) (h : Heap) (next : List (Nat × Heap) → Loads → Value → Heap → Prop) : Prop :=
  match io with
  | .p po => oletP (ipure po (ev f)) fun v => next heaps loads v h
  | .l lo => oletP (iload lo (ev f) h) fun v => chkPast pre lo f v heaps ∧ next heaps (loads ++ [(j, lo, f, v)]) v h
  | .e eo => oletH (ieff eo (ev f) h) fun v h' => chkFut pre h' loads ∧ next (heaps ++ [(j, h)]) loads v h'
  | .call g args => icall P g (args.map (ev f)) h fun v h' => chkFut pre h' loads ∧ next (heaps ++ [(j, h)]) loads v h'
  | .callv x args => callV P (ev f x) (args.map (ev f)) h fun v h' => chkFut pre h' loads ∧ next (heaps ++ [(j, h)]) loads v h'

def dskip (io : IOp) (pre j : Nat) (heaps : List (Nat × Heap)) (loads : Loads) (h : Heap) (next : List (Nat × Heap) → Loads → Value → Heap → Prop) : Prop :=
  match io.isE with
  | false => next heaps loads undef h
  | true => chkFut pre h loads ∧ next (heaps ++ [(j, h)]) loads undef h

/-- A region whose order is open: in the text's order, and what is read must be the same at every stage at which it may be read. -/
def idops (P : Program) : List DOper → Nat → List (Nat × Heap) → Loads → ((Nat → Value) → Heap → Prop) → (Nat → Value) → Heap → Prop
  | [], _, _, _, K, f, h => K f h
  | o :: os, j, heaps, loads, K, f, h =>
    match o.op.guard with
    | none => dwant P o.op.op o.pre j heaps loads f h fun heaps loads v h' => idops P os (j + 1) heaps loads K (updO f o.op.dst v) h'
    | some (s, b) =>
      guardK (f s) b (dwant P o.op.op o.pre j heaps loads f h fun heaps loads v h' => idops P os (j + 1) heaps loads K (updO f o.op.dst v) h')
        (dskip o.op.op o.pre j heaps loads h fun heaps loads v h' => idops P os (j + 1) heaps loads K (updO f o.op.dst v) h')

/-- The same in groups. -/
def gdrun (P : Program) : List GDOper → Nat → List (Nat × Heap) → Loads → (List (Nat × Heap) → Loads → (Nat → Value) → Heap → Prop) → (Nat → Value) → Heap → Prop
  | [], _, heaps, loads, K, f, h => K heaps loads f h
  | o :: os, j, heaps, loads, K, f, h => dwant P o.op o.pre j heaps loads f h fun heaps loads v h' => gdrun P os (j + 1) heaps loads K (updO f o.dst v) h'

def gdskip : List GDOper → Nat → List (Nat × Heap) → Loads → (List (Nat × Heap) → Loads → (Nat → Value) → Heap → Prop) → (Nat → Value) → Heap → Prop
  | [], _, heaps, loads, K, f, h => K heaps loads f h
  | o :: os, j, heaps, loads, K, f, h => dskip o.op o.pre j heaps loads h fun heaps loads v h' => gdskip os (j + 1) heaps loads K (updO f o.dst v) h'

def gdops (P : Program) : List (Option (Nat × Bool) × List GDOper) → Nat → List (Nat × Heap) → Loads → ((Nat → Value) → Heap → Prop) → (Nat → Value) → Heap → Prop
  | [], _, _, _, K, f, h => K f h
  | (none, l) :: gs, j, heaps, loads, K, f, h => gdrun P l j heaps loads (fun heaps loads f h => gdops P gs (j + l.length) heaps loads K f h) f h
  | (some (s, b), l) :: gs, j, heaps, loads, K, f, h =>
    guardK (f s) b (gdrun P l j heaps loads (fun heaps loads f h => gdops P gs (j + l.length) heaps loads K f h) f h)
      (gdskip l j heaps loads (fun heaps loads f h => gdops P gs (j + l.length) heaps loads K f h) f h)

def thenK (next : (Nat → Value) → Heap → Prop) (K : Exit → (Nat → Value) → Heap → Prop) : Exit → (Nat → Value) → Heap → Prop
  | .normal, f, h => next f h
  | e, f, h => K e f h

def inBlockK (id : Nat) (K : Exit → (Nat → Value) → Heap → Prop) : Exit → (Nat → Value) → Heap → Prop
  | .exit i, f, h => if i = id then K .normal f h else K (.exit i) f h
  | e, f, h => K e f h

def condK (c : Value) (a b : Prop) : Prop :=
  match c with
  | .bool t => if t = true then a else b
  | _ => False

/-- What is known of a frame is cut down. -/
def cutK (Q : (Nat → Value) → Heap → Prop) (ls : List Nat) (vs : List Value) (h : Heap) : Prop := Q (ofl ls vs) h

/-- A loop: an invariant of the slots that change, and a measure. -/
def loopK (init : List Value) (h : Heap) (Q : (List Value → Heap → Prop) → List Value → Heap → Prop) : Prop :=
  ∃ (J : List Value → Heap → Prop) (μ : List Value → Heap → Nat), J init h ∧ ∀ (xs : List Value) (hx : Heap), J xs hx → Q (fun ys hy => J ys hy ∧ μ ys hy < μ xs hx) xs hx

abbrev Kont := Exit → (Nat → Value) → Heap → Prop

noncomputable def iwp (P : Program) (c : ICode) : Kont → (Nat → Value) → Heap → Prop :=
  ICode.rec (motive := fun _ => Kont → (Nat → Value) → Heap → Prop)
    (fun K f h => K .normal f h)
    (fun l K f h => gdops P l 0 [] [] (K .normal) f h)
    (fun g l K f h => opsK P g l (K .normal) f h)
    (fun _ _ ia ib K f h => ia (thenK (ib K) K) f h)
    (fun ls _ ic K f h => cutK (ic K) ls (ls.map f) h)
    (fun c _ _ ia ib K f h => condK (ev f c) (ia K f h) (ib K f h))
    (fun id _ ic K f h => ic (inBlockK id K) f h)
    (fun ks ls _ ic K f h => loopK (ls.map f) h fun L xs hx => ic (thenK (fun f' h'' => ks.map f' = ks.map f ∧ L (ls.map f') h'') K) (ofl (ks ++ ls) (ks.map f ++ xs)) hx)
    (fun id K f h => K (.exit id) f h)
    (fun K f h => K .ret f h)
    (fun g ls c K f h => rangeK P (ev f g) ls (ls.map f) c h (K .normal f)) c

theorem iwp_cond {P : Program} {c : Operand} {a b : ICode} {K : Kont} {f : Nat → Value} {h : Heap} : iwp P (.cond c a b) K f h = condK (ev f c) (iwp P a K f h) (iwp P b K f h) := rfl

def compOp (P : Program) (op : Op) : Option IOp :=
  match compP P op with
  | some o => some (.p o)
  | none => match compL P op with
    | some o => some (.l o)
    | none => match compE P op with
      | some o => some (.e o)
      | none => match op with
        | .call { callee := .value (.func f), args, .. } => if callOk P f then some (.call f args.toList) else none
        | .call { callee := .value x, args, .. } => some (.callv x args.toList)
        | _ => none

def compGuard (N : Nat) (ops : Array Oper) : Option (Nat × Bool) → Option (Option (Nat × Bool))
  | none => some none
  | some (j, b) => match (ops[j]?).bind (·.dst) with
    | some s => if s < N then some (some (s, b)) else none
    | none => none

def compOper (P : Program) (N : Nat) (ops : Array Oper) (o : Oper) : Option IOper :=
  if o.op.operands.all opdOk && o.dst.all (· < N) then
    match compOp P o.op, compGuard N ops o.guard with
    | some op, some g => some ⟨o.dst, op, g⟩
    | _, _ => none
  else none

def compList (P : Program) (N : Nat) (ops : Array Oper) : List Oper → Option (List IOper)
  | [] => some []
  | o :: os => match compOper P N ops o, compList P N ops os with
    | some x, some xs => some (x :: xs)
    | _, _ => none

def POp.opds : POp → List Operand
  | .mv x | .un _ x | .conv _ x | .sid x | .lenS x | .lenSl x | .fadr _ x | .fld _ _ _ x | .nilck x | .ext x _ => [x]
  | .pick c a b => [c, a, b]
  | .bin _ x y | .eqb _ x y | .eqnil _ x y | .idxS x y | .idxA _ _ _ x y | .adrSl _ x y | .adrArr _ _ x y => [x, y]
  | .lenArr _ => []
  | .minmax _ xs => xs
  | .slS x lo hi => x :: (lo.toList ++ hi.toList)
  | .slSl _ _ x lo hi => x :: (lo.toList ++ hi.toList)
  | .fn _ first captured => first ++ captured
  | .build _ parts => parts.map (·.2.2)

def LOp.opds : LOp → List Operand
  | .load _ _ a => [a]
  | .b2s x => [x]
  | .lookup _ _ m k => [m, k]

def EOp.opds : EOp → List Operand
  | .store _ a v => [a, v]
  | .box _ x => [x]
  | .alloc _ _ => []
  | .mkSl _ _ _ parts => parts.map (·.2.2)
  | .make _ _ _ l c => [l, c]
  | .app _ _ _ s x => [s, x]
  | .mkMap => []
  | .mupd m k v => [m, k, v]

def IOp.opds : IOp → List Operand
  | .p o => o.opds
  | .l o => o.opds
  | .e o => o.opds
  | .call _ args => args
  | .callv x args => x :: args

def tmpsOf : List Operand → List Nat
  | [] => []
  | .tmp t :: xs => t :: tmpsOf xs
  | _ :: xs => tmpsOf xs

/-- The slots that an operation reads. -/
def IOper.reads (o : IOper) : List Nat := (match o.guard with | some (s, _) => [s] | none => []) ++ tmpsOf o.op.opds

/-- The operations that come before: a mask of bits, by the masks of those before. -/
def preOf (pres : List Nat) : List Nat → Nat
  | [] => 0
  | e :: es => (2 ^ e ||| pres.getD e 0) ||| preOf pres es

def calcPre : List (List Nat) → List Nat → List Nat
  | [], acc => acc
  | es :: r, acc => calcPre r (acc ++ [preOf acc es])

def touches (o : DOper) (t : Nat) : Bool := o.op.dst == some t || o.op.reads.contains t

/-- Whoever touches a slot that another one writes comes before it, or behind it, in every order; those that write memory come one behind the other in every order. -/
def pairOk (oj : DOper) (j : Nat) (oi : DOper) (i : Nat) : Bool :=
  (i == j || (match oi.op.dst with
    | none => true
    | some t => !touches oj t || (if i < j then oj.pre.testBit i else oi.pre.testBit j))) &&
  (!(decide (i < j) && oi.op.op.isE && oj.op.op.isE) || oj.pre.testBit i)

def pairsOk (l : List DOper) : Bool := l.zipIdx.all fun (oj, j) => l.zipIdx.all fun (oi, i) => pairOk oj j oi i

/-- The operations that must come before. -/
def edgesOf (o : Oper) : List Nat := o.after.toList.filterMap fun e => if Region.binds .any e then some e.on else none

/-- The edges go backward. -/
def backOk (ops : List Oper) : Nat → Bool
  | i => match ops with
    | [] => true
    | o :: os => (edgesOf o).all (· < i) && backOk os (i + 1)

def zipD : List IOper → List Nat → List DOper
  | o :: os, p :: ps => ⟨o, p⟩ :: zipD os ps
  | _, _ => []

def compD (P : Program) (N : Nat) (ops : Array Oper) : Option (List DOper) :=
  match compList P N ops ops.toList with
  | some ios =>
    if P.follows .mixedOrders && backOk ops.toList 0 && pairsOk (zipD ios (calcPre (ops.toList.map edgesOf) [])) then some (zipD ios (calcPre (ops.toList.map edgesOf) [])) else none
  | none => none

/-- Operations with one guard, one behind the other, that leave its slot alone. -/
def groupsOf : List IOper → List (Option (Nat × Bool) × List GOper)
  | [] => []
  | o :: os => match groupsOf os with
    | (g, l) :: gs => if o.guard = g then (g, ⟨o.dst, o.op⟩ :: l) :: gs else (o.guard, [⟨o.dst, o.op⟩]) :: (g, l) :: gs
    | [] => [(o.guard, [⟨o.dst, o.op⟩])]

def leaves (g : Option (Nat × Bool)) (d : Option Nat) : Bool :=
  match g with
  | some (s, _) => d != some s
  | none => true

def dgroupsOf : List DOper → List (Option (Nat × Bool) × List GDOper)
  | [] => []
  | o :: os => match dgroupsOf os with
    | (g, l) :: gs => if o.op.guard = g then (g, ⟨o.op.dst, o.op.op, o.pre⟩ :: l) :: gs else (o.op.guard, [⟨o.op.dst, o.op.op, o.pre⟩]) :: (g, l) :: gs
    | [] => [(o.op.guard, [⟨o.op.dst, o.op.op, o.pre⟩])]

/-- Hints: where what is known of a frame is cut down, and to which slots. -/
abbrev Hints := List (List Nat)

/-- A hint that names no slot is none. -/
def cutO (ls : List Nat) (c : ICode) : ICode :=
  match ls with
  | [] => c
  | l :: ls => .cut (l :: ls) c

def rcode : List (Option (Nat × Bool) × List GOper) → Hints → ICode × Hints
  | [], hs => (.skip, hs)
  | (g, l) :: gs, hs =>
    match gs, hs with
    | [], hs => (.ops g l, hs)
    | gs, h :: hs => let r := rcode gs hs; (.seq (.ops g l) (cutO h r.1), r.2)
    | gs, [] => let r := rcode gs []; (.seq (.ops g l) r.1, r.2)

def compCode (P : Program) (N : Nat) : Code → Hints → Option (ICode × Hints)
  | .skip, hs => some (.skip, hs)
  | .region _ ops false, hs =>
    match compList P N ops ops.toList with
    | some l => if l.all fun o => leaves o.guard o.dst then some (rcode (groupsOf l) hs) else none
    | none => none
  | .region _ ops true, hs =>
    match compD P N ops with
    | some l => if l.all fun o => leaves o.op.guard o.op.dst then some (.dops (dgroupsOf l), hs) else none
    | none => none
  | .seq a b, hs =>
    match compCode P N a hs with
    | some (x, h :: hs) => match compCode P N b hs with
      | some (y, hs) => some (.seq x (cutO h y), hs)
      | none => none
    | some (x, []) => match compCode P N b [] with
      | some (y, hs) => some (.seq x y, hs)
      | none => none
    | none => none
  | .cond c a b, hs => if opdOk c then match compCode P N a hs with
    | some (x, hs) => match compCode P N b hs with
      | some (y, hs) => some (.cond c x y, hs)
      | none => none
    | none => none
    else none
  | .block id c, hs => match compCode P N c hs with
    | some (x, hs) => some (.block id x, hs)
    | none => none
  | .loop c, hs =>
    match hs with
    | ks :: ls :: hs => match compCode P N c hs with
      | some (x, hs) => some (.loop ks ls x, hs)
      | none => none
    | _ => none
  | .exit id, hs => some (.exit id, hs)
  | .ret, hs => some (.ret, hs)
  | .rangeFunc g ps asg body, hs =>
    match hs with
    | ls :: hs => if opdOk g && ps.all (· < N) then some (.range g ls ⟨N, ps, asg, body⟩, hs) else none
    | [] => none
  | _, _ => none

/-- The first range over a function in a function's code. -/
def findRange (N : Nat) : Code → Option LoopC
  | .rangeFunc _ ps asg body => some ⟨N, ps, asg, body⟩
  | .seq a b => match findRange N a with | some x => some x | none => findRange N b
  | .cond _ a b => match findRange N a with | some x => some x | none => findRange N b
  | .block _ c => findRange N c
  | .loop c => findRange N c
  | _ => none

def loopOf (P : Program) (F : FuncId) : LoopC :=
  match P.funcs[F]? with
  | some fn => match fn.body with
    | some c => match findRange fn.ntmps c with
      | some x => x
      | none => ⟨0, #[], .skip, .skip⟩
    | none => ⟨0, #[], .skip, .skip⟩
  | none => ⟨0, #[], .skip, .skip⟩

/-- No range over a function. -/
def noRange : Code → Bool
  | .seq a b => noRange a && noRange b
  | .cond _ a b => noRange a && noRange b
  | .block _ c => noRange c
  | .loop c => noRange c
  | .rangeFunc .. => false
  | _ => true

section
variable {P : Program} {N : Nat}

def Post (P : Program) (N B : Nat) (ρ : RMap) (h : Heap) (w : World) (e : Exit) (f' : Nat → Value) (h' : Heap) : Exit → Act → World → Prop :=
  fun e' a' w' => e' = e ∧ ∃ ρ', Rel P N B ρ' f' h' a' w' ∧ Tr ρ h w ρ' h' w'

/-- What code comes to; 'out': it stands outside of all rounds. -/
def Run (P : Program) (N : Nat) (out : Bool) (c : Code) (f : Nat → Value) (h : Heap) (e : Exit) (f' : Nat → Value) (h' : Heap) : Prop :=
  ∀ R, (out = true → R = none) → ∀ B ρ a w, Rel P N B ρ f h a w → c.wpIn (FR R) 0 P (Post P N B ρ h w e f' h') a w

/-- One operation, whatever follows. -/
def OpStep (P : Program) (N : Nat) (o : Oper) (f : Nat → Value) (h : Heap) (v : Value) (h' : Heap) : Prop :=
  ∀ R B ρ a w, Rel P N B ρ f h a w → ∀ (next : Act → World → Prop) (Q : Exit → Act → World → Prop),
    (∀ ρ' v' w', VRel ρ' v v' → HRel P ρ' h' w' → Tr ρ h w ρ' h' w' → next (a.put o.dst v') w') → o.wpIn (FR R) 0 P a w next Q

theorem semAt_any {o : Oper} (hn : ∀ c, o.op ≠ .defer c) (R : Option Nat) (g : Operand → Value) : o.semAt R g = execOp g o := by
  cases R with
  | none => rfl
  | some l => exact Oper.semAt_some l g o hn

theorem wpIn_val {R : Option Nat} {o : Oper} {a : Act} {w w' : World} {next : Act → World → Prop} {Q : Exit → Act → World → Prop} {v : Value} (hn : ∀ c, o.op ≠ .defer c)
    (he : (execOp a.eval o).run P w = .ok (.value v) w') (hk : next (a.put o.dst v) w') : o.wpIn (FR R) 0 P a w next Q := by
  refine ⟨fun _ _ => trivial, ?_⟩
  rw [semAt_any hn, he, Oper.uponIn_value]
  exact hk

theorem wpIn_skip' {R : Option Nat} {o : Oper} {a : Act} {w w' : World} {next : Act → World → Prop} {Q : Exit → Act → World → Prop} (hn : ∀ c, o.op ≠ .defer c)
    (he : (execOp a.eval o).run P w = .ok .skip w') (hk : next (a.put o.dst undef) w') : o.wpIn (FR R) 0 P a w next Q := by
  refine ⟨fun _ _ => trivial, ?_⟩
  rw [semAt_any hn, he, Oper.uponIn_skip]
  exact hk

theorem calls_fr {f : FuncId} {args : Array Value} {w : World} {K : Ending → World → Prop} (h : Calls P f args w K) (R : Option Nat) (n : Nat) : CallsIn (FR R) n P f args w K := by
  cases R with
  | none => exact callsIn_wide.2 h
  | some l => exact (callsIn_wide (n := n)).2 h

theorem round_fr {l : Nat} {f : FuncId} {tmps : Array Value} {asg body : Code} {w : World} {K : Ending → World → Prop} (h : RoundIn Fence.wide 0 P l f tmps asg body w K) (R : Option Nat) :
    RoundIn (FR R) 0 P l f tmps asg body w K := h

theorem callFunc_ok {f : FuncId} (h : callOk P f = true) (args : Array Value) (w : World) : (callFunc f args).run P w = .ok (.enter f args) w := by
  unfold callOk at h
  split at h
  · rename_i fn hf
    simp only [Bool.and_eq_true, bne_iff_ne] at h
    obtain ⟨h1, h2⟩ := h
    have h3 : fn.body ≠ none := by
      intro hb
      simp [hb] at h2
    simp [callFunc, hf, h1, h3]
  · cases h

theorem opStep_enter {o : Oper} {f : Nat → Value} {h : Heap} {g : FuncId} {args : List Value} {v : Value} {h' : Heap} (hc : ICall P g args h v h')
    (hd : ∀ c, o.op ≠ .defer c)
    (he : ∀ B ρ a w, Rel P N B ρ f h a w → ∃ args' : Array Value, VsRel ρ args args'.toList ∧ (execOp a.eval o).run P w = .ok (.enter g args') w) : OpStep P N o f h v h' := by
  intro r B ρ a w R next Q hn
  obtain ⟨args', hv, hr⟩ := he B ρ a w R
  refine ⟨fun _ _ => trivial, ?_⟩
  rw [semAt_any hd, hr, Oper.uponIn_enter]
  refine ⟨fun h => (by cases h), ?_⟩
  refine (calls_fr (hc ρ args' w hv R.heap) r _).mono ?_
  rintro e w' ⟨v', ρ', rfl, h1, h2, h3⟩
  exact hn ρ' v' w' h1 h2 h3

theorem opStep_round {o : Oper} {f : Nat → Value} {h : Heap} {i : Nat} {args : List Value} {v : Value} {h' : Heap} (hc : IYield P i args h v h')
    (hd : ∀ c, o.op ≠ .defer c)
    (he : ∀ B ρ a w, Rel P N B ρ f h a w → ∃ (r : RI) (args' : Array Value), ρ i = some r ∧ VsRel ρ args args'.toList ∧ (execOp a.eval o).run P w = (Instr.yield r.blk args').run P w) : OpStep P N o f h v h' := by
  intro R' B ρ a w R next Q hn
  obtain ⟨r, args', hi, hv, hr⟩ := he B ρ a w R
  obtain ⟨fn, tmps, asg, body, e1, e2⟩ := hc ρ r args' w hi hv R.heap
  refine ⟨fun _ _ => trivial, ?_⟩
  rw [semAt_any hd, hr, e1, Oper.uponIn_round]
  refine ⟨fun h => (by cases h), ?_⟩
  refine (round_fr e2 R').mono ?_
  rintro e w' ⟨v', ρ', rfl, h1, h2, h3⟩
  exact hn ρ' v' w' h1 h2 h3

theorem compOp_nd {op : Op} {io : IOp} (h : compOp P op = some io) : ∀ c, op ≠ .defer c := by
  rintro c rfl
  simp [compOp, compP, compL, compE] at h

theorem compOp_inv {op : Op} {io : IOp} (h : compOp P op = some io) : (∃ o, io = .p o ∧ compP P op = some o) ∨ (∃ o, io = .l o ∧ compL P op = some o) ∨ (∃ o, io = .e o ∧ compE P op = some o) ∨
    (∃ f args at_, op = .call ⟨.value (.func f), args, at_⟩ ∧ callOk P f = true ∧ io = .call f args.toList) ∨ (∃ x args at_, op = .call ⟨.value x, args, at_⟩ ∧ io = .callv x args.toList) := by
  unfold compOp at h
  split at h
  · rename_i o ho; simp at h; exact .inl ⟨o, h.symm, ho⟩
  · split at h
    · rename_i o ho; simp at h; exact .inr (.inl ⟨o, h.symm, ho⟩)
    · split at h
      · rename_i o ho; simp at h; exact .inr (.inr (.inl ⟨o, h.symm, ho⟩))
      · split at h
        · split at h
          · rename_i hc; simp at h; exact .inr (.inr (.inr (.inl ⟨_, _, _, rfl, hc, h.symm⟩)))
          · cases h
        · simp at h; exact .inr (.inr (.inr (.inr ⟨_, _, _, rfl, h.symm⟩)))
        · cases h

theorem opStep_of {o : Oper} {io : IOp} {f : Nat → Value} {h : Heap} {K : Value → Heap → Prop} (hc : compOp P o.op = some io) (hok : o.op.operands.all opdOk = true) (hs : stepK P io f h K) :
    ∃ v h', OpStep P N o f h v h' ∧ K v h' := by
  have hnd := compOp_nd hc
  rcases compOp_inv hc with ⟨po, rfl, hp⟩ | ⟨lo, rfl, hl⟩ | ⟨eo, rfl, he⟩ | ⟨g, args, at_, ho, hco, rfl⟩ | ⟨x, args, at_, ho, rfl⟩
  · simp only [stepK, oletP] at hs
    split at hs
    · rename_i v hv
      refine ⟨v, h, ?_, hs⟩
      intro _ B ρ a w R next Q hn
      obtain ⟨v', h1, h2⟩ := pure_sound w hp hok R.heap.esz (fun x hx => R.ev hx) hv
      exact wpIn_val hnd h1 (hn ρ v' w h2 R.heap (Tr.refl R.heap))
    · exact hs.elim
  · simp only [stepK, oletP] at hs
    split at hs
    · rename_i v hv
      refine ⟨v, h, ?_, hs⟩
      intro _ B ρ a w R next Q hn
      obtain ⟨v', h1, h2⟩ := load_sound hl hok R.heap (fun x hx => R.ev hx) hv
      exact wpIn_val hnd h1 (hn ρ v' w h2 R.heap (Tr.refl R.heap))
    · exact hs.elim
  · simp only [stepK, oletH] at hs
    split at hs
    · rename_i v h' hv
      refine ⟨v, h', ?_, hs⟩
      intro _ B ρ a w R next Q hn
      obtain ⟨nx, w', ρ', v', e1, e2, e3, e4, e5⟩ := eff_sound he hok R.heap (fun x hx => R.ev hx) hv
      rcases e2 with rfl | ⟨rfl, rfl⟩
      · exact wpIn_val hnd e1 (hn ρ' v' w' e3 e4 e5)
      · exact wpIn_skip' hnd e1 (hn ρ' undef w' e3 e4 e5)
    · exact hs.elim
  · obtain ⟨v, h', hcall, hk⟩ := hs
    refine ⟨v, h', opStep_enter hcall hnd ?_, hk⟩
    intro B ρ a w R
    rw [ho] at hok
    simp [Op.operands, Call.operands] at hok
    refine ⟨args.map a.eval, by simpa using VsRel.map_ev (fun x hx => R.ev hx) (xs := args.toList) (by simpa using hok.2), ?_⟩
    simp [execOp, ho, resolve, Act.eval, Deferred.ofValue, invoke, callFunc_ok hco]
  · simp only [stepK, callV] at hs
    rw [ho] at hok
    simp [Op.operands, Call.operands] at hok
    split at hs
    · rename_i g first cap hx
      obtain ⟨hco, v, h', hcall, hk⟩ := hs
      refine ⟨v, h', opStep_enter hcall hnd ?_, hk⟩
      intro B ρ a w R
      have hr := R.ev (x := x) hok.1
      rw [hx] at hr
      generalize hy : a.eval x = y at hr
      cases hr with
      | func _ s1 s2 r1 r2 =>
        rename_i first' cap'
        refine ⟨first' ++ args.map a.eval ++ cap', ?_, ?_⟩
        · have q1 := VsRel.toArr s1 r1
          have q2 := VsRel.map_ev (fun x hx => R.ev hx) (xs := args.toList) (by simpa using hok.2)
          have q3 := VsRel.toArr s2 r2
          simpa using (q1.append q2).append q3
        · simp [execOp, ho, resolve, hy, Deferred.ofValue, invoke, callFunc_ok hco]
    · rename_i i first cap hx
      obtain ⟨⟨rfl, rfl⟩, v, h', hcall, hk⟩ := hs
      refine ⟨v, h', opStep_round hcall hnd ?_, hk⟩
      intro B ρ a w R
      have hr := R.ev (x := x) hok.1
      rw [hx] at hr
      generalize hy : a.eval x = y at hr
      cases hr with
      | yield hi =>
        rename_i r
        refine ⟨r, args.map a.eval, hi, by simpa using VsRel.map_ev (fun x hx => R.ev hx) (xs := args.toList) (by simpa using hok.2), ?_⟩
        simp [execOp, ho, resolve, hy, Deferred.ofValue, invoke]
    · exact hs.elim

end
end Go.Sim
