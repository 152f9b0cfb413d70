/-
  The same ideal machine with inert wrappers: what the printed texts are made of.
-/
import Derived.Test.YtipeennffbbglaaSim16
namespace Go.Sim

inductive OP (o : Option Value) (K : Value → Prop) : Prop | mk : oletP o K → OP o K
inductive OH (o : Option (Value × Heap)) (K : Value → Heap → Prop) : Prop | mk : oletH o K → OH o K
inductive IfP (c : Value) (a b : Prop) : Prop | mk : condK c a b → IfP c a b
inductive GdP (v : Value) (b : Bool) (A B : Prop) : Prop | mk : guardK v b A B → GdP v b A B
inductive CutP (Q : (Nat → Value) → Heap → Prop) (ls : List Nat) (vs : List Value) (h : Heap) : Prop | mk : cutK Q ls vs h → CutP Q ls vs h
inductive LoopP (init : List Value) (h : Heap) (Q : (List Value → Heap → Prop) → List Value → Heap → Prop) : Prop | mk : loopK init h Q → LoopP init h Q
inductive CallP (P : Program) (F : FuncId) (args : List Value) (h : Heap) (K : Value → Heap → Prop) : Prop | mk : icall P F args h K → CallP P F args h K
inductive CallVP (P : Program) (x : Value) (args : List Value) (h : Heap) (K : Value → Heap → Prop) : Prop | mk : callV P x args h K → CallVP P x args h K

inductive RangeP (P : Program) (g : Value) (ls : List Nat) (vs : List Value) (c : LoopC) (h : Heap) (K : Heap → Prop) : Prop | mk : rangeK P g ls vs c h K → RangeP P g ls vs c h K

theorem RangeP_eq : RangeP = rangeK := funext fun _ => funext fun _ => funext fun _ => funext fun _ => funext fun _ => funext fun _ => funext fun _ => propext ⟨fun ⟨h⟩ => h, .mk⟩
theorem OP_eq : OP = oletP := funext fun _ => funext fun _ => propext ⟨fun ⟨h⟩ => h, .mk⟩
theorem OH_eq : OH = oletH := funext fun _ => funext fun _ => propext ⟨fun ⟨h⟩ => h, .mk⟩
theorem IfP_eq : IfP = condK := funext fun _ => funext fun _ => funext fun _ => propext ⟨fun ⟨h⟩ => h, .mk⟩
theorem GdP_eq : GdP = guardK := funext fun _ => funext fun _ => funext fun _ => funext fun _ => propext ⟨fun ⟨h⟩ => h, .mk⟩
theorem CutP_eq : CutP = cutK := funext fun _ => funext fun _ => funext fun _ => funext fun _ => propext ⟨fun ⟨h⟩ => h, .mk⟩
theorem LoopP_eq : LoopP = loopK := funext fun _ => funext fun _ => funext fun _ => propext ⟨fun ⟨h⟩ => h, .mk⟩
theorem CallP_eq : CallP = icall := funext fun _ => funext fun _ => funext fun _ => funext fun _ => funext fun _ => propext ⟨fun ⟨h⟩ => h, .mk⟩
theorem CallVP_eq : CallVP = callV := funext fun _ => funext fun _ => funext fun _ => funext fun _ => funext fun _ => propext ⟨fun ⟨h⟩ => h, .mk⟩

theorem CutP_def (Q : (Nat → Value) → Heap → Prop) (ls : List Nat) (vs : List Value) (h : Heap) : CutP Q ls vs h = Q (ofl ls vs) h := by
  rw [CutP_eq]
  rfl

def pureP (o : POp) (g : Operand → Value) (k : Value → Prop) : Prop :=
  match o with
  | .mv x => k (g x)
  | .lenArr n => k (.int .i64 n)
  | .fn f a b => k (.func (.func f) (a.map g).toArray (b.map g).toArray)
  | o => OP (ipure o g) k

theorem pureP_eq (o : POp) (g : Operand → Value) (k : Value → Prop) : pureP o g k = oletP (ipure o g) k := by
  unfold pureP
  split
  · rfl
  · rfl
  · rfl
  · rw [OP_eq]

def stepP (P : Program) (o : IOp) (f : Nat → Value) (h : Heap) (K : Value → Heap → Prop) : Prop :=
  match o with
  | .p o => pureP o (ev f) fun v => K v h
  | .l o => OP (iload o (ev f) h) fun v => K v h
  | .e o => OH (ieff o (ev f) h) K
  | .call g args => CallP P g (args.map (ev f)) h K
  | .callv x args => CallVP P (ev f x) (args.map (ev f)) h K

theorem stepP_eq (P : Program) (o : IOp) (f : Nat → Value) (h : Heap) (K : Value → Heap → Prop) : stepP P o f h K = stepK P o f h K := by
  cases o <;> simp only [stepP, stepK, pureP_eq, OP_eq, OH_eq, CallP_eq, CallVP_eq]

def gopsP (P : Program) (l : List GOper) (K : (Nat → Value) → Heap → Prop) : (Nat → Value) → Heap → Prop :=
  List.rec (motive := fun _ => (Nat → Value) → Heap → Prop) (fun f h => K f h) (fun o _ ih f h => stepP P o.op f h fun v h' => ih (updO f o.dst v) h') l

theorem gopsP_eq (P : Program) (l : List GOper) (K : (Nat → Value) → Heap → Prop) : ∀ (f : Nat → Value) (h : Heap), gopsP P l K f h = gops P l K f h := by
  induction l with
  | nil => intro f h; rfl
  | cons o os ih =>
    intro f h
    show stepP P o.op f h (fun v h' => gopsP P os K (updO f o.dst v) h') = _
    rw [stepP_eq, gops]
    congr 1
    funext v h'
    exact ih _ _

def opsP (P : Program) (g : Option (Nat × Bool)) (l : List GOper) (K : (Nat → Value) → Heap → Prop) (f : Nat → Value) (h : Heap) : Prop :=
  match g with
  | none => gopsP P l K f h
  | some (s, b) => GdP (f s) b (gopsP P l K f h) (K (undefs l f) h)

theorem opsP_eq (P : Program) (g : Option (Nat × Bool)) (l : List GOper) (K : (Nat → Value) → Heap → Prop) (f : Nat → Value) (h : Heap) : opsP P g l K f h = opsK P g l K f h := by
  unfold opsP opsK
  split <;> simp only [gopsP_eq, GdP_eq]

abbrev DNext := List (Nat × Heap) → Loads → Value → Heap → Prop

def dwantP (P : Program) (io : IOp) (pre j : Nat) (heaps : List (Nat × Heap)) (loads : Loads) (f : Nat → Value) (h : Heap) (next : DNext) : Prop :=
  match io with
  | .p po => pureP po (ev f) fun v => next heaps loads v h
  | .l lo => OP (iload lo (ev f) h) fun v => chkPast pre lo f v heaps ∧ next heaps (loads ++ [(j, lo, f, v)]) v h
  | .e eo => OH (ieff eo (ev f) h) fun v h' => chkFut pre h' loads ∧ next (heaps ++ [(j, h)]) loads v h'
  | .call g args => CallP P g (args.map (ev f)) h fun v h' => chkFut pre h' loads ∧ next (heaps ++ [(j, h)]) loads v h'
  | .callv x args => CallVP P (ev f x) (args.map (ev f)) h fun v h' => chkFut pre h' loads ∧ next (heaps ++ [(j, h)]) loads v h'

theorem dwantP_eq (P : Program) (io : IOp) (pre j : Nat) (heaps : List (Nat × Heap)) (loads : Loads) (f : Nat → Value) (h : Heap) (next : DNext) :
    dwantP P io pre j heaps loads f h next = dwant P io pre j heaps loads f h next := by
  cases io <;> simp only [dwantP, dwant, pureP_eq, OP_eq, OH_eq, CallP_eq, CallVP_eq]

abbrev DKont := List (Nat × Heap) → Loads → (Nat → Value) → Heap → Prop

def gdrunP (P : Program) : List GDOper → Nat → List (Nat × Heap) → Loads → DKont → (Nat → Value) → Heap → Prop
  | [], _, heaps, loads, K, f, h => K heaps loads f h
  | o :: os, j, heaps, loads, K, f, h => dwantP P o.op o.pre j heaps loads f h fun heaps loads v h' => gdrunP P os (j + 1) heaps loads K (updO f o.dst v) h'

theorem gdrunP_eq (P : Program) : ∀ (l : List GDOper) (j : Nat) (heaps : List (Nat × Heap)) (loads : Loads) (K : DKont) (f : Nat → Value) (h : Heap), gdrunP P l j heaps loads K f h = gdrun P l j heaps loads K f h
  | [], _, _, _, _, _, _ => rfl
  | o :: os, j, heaps, loads, K, f, h => by
    rw [gdrunP, gdrun, dwantP_eq]
    congr 1
    funext heaps loads v h'
    exact gdrunP_eq P os _ _ _ _ _ _

def gdopsP (P : Program) : List (Option (Nat × Bool) × List GDOper) → Nat → List (Nat × Heap) → Loads → ((Nat → Value) → Heap → Prop) → (Nat → Value) → Heap → Prop
  | [], _, _, _, K, f, h => K f h
  | (none, l) :: gs, j, heaps, loads, K, f, h => gdrunP P l j heaps loads (fun heaps loads f h => gdopsP P gs (j + l.length) heaps loads K f h) f h
  | (some (s, b), l) :: gs, j, heaps, loads, K, f, h =>
    GdP (f s) b (gdrunP P l j heaps loads (fun heaps loads f h => gdopsP P gs (j + l.length) heaps loads K f h) f h)
      (gdskip l j heaps loads (fun heaps loads f h => gdopsP P gs (j + l.length) heaps loads K f h) f h)

theorem gdopsP_eq (P : Program) : ∀ (gs : List (Option (Nat × Bool) × List GDOper)) (j : Nat) (heaps : List (Nat × Heap)) (loads : Loads) (K : (Nat → Value) → Heap → Prop) (f : Nat → Value) (h : Heap),
    gdopsP P gs j heaps loads K f h = gdops P gs j heaps loads K f h
  | [], _, _, _, _, _, _ => rfl
  | (none, l) :: gs, j, heaps, loads, K, f, h => by
    have e : (fun heaps loads f h => gdopsP P gs (j + l.length) heaps loads K f h) = fun heaps loads f h => gdops P gs (j + l.length) heaps loads K f h := by
      funext a b c d; exact gdopsP_eq P gs _ _ _ _ _ _
    rw [gdopsP, gdops, gdrunP_eq, e]
  | (some (s, b), l) :: gs, j, heaps, loads, K, f, h => by
    have e : (fun heaps loads f h => gdopsP P gs (j + l.length) heaps loads K f h) = fun heaps loads f h => gdops P gs (j + l.length) heaps loads K f h := by
      funext a b c d; exact gdopsP_eq P gs _ _ _ _ _ _
    rw [gdopsP, gdops, gdrunP_eq, e, GdP_eq]

noncomputable def iwpP (P : Program) (c : ICode) : Kont → (Nat → Value) → Heap → Prop :=
  ICode.rec (motive := fun _ => Kont → (Nat → Value) → Heap → Prop)
    (fun K f h => K .normal f h)
    (fun l K f h => gdopsP P l 0 [] [] (K .normal) f h)
    (fun g l K f h => opsP P g l (K .normal) f h)
    (fun _ _ ia ib K f h => ia (thenK (ib K) K) f h)
    (fun ls _ ic K f h => CutP (ic K) ls (ls.map f) h)
    (fun c _ _ ia ib K f h => IfP (ev f c) (ia K f h) (ib K f h))
    (fun id _ ic K f h => ic (inBlockK id K) f h)
    (fun ks ls _ ic K f h => LoopP (ls.map f) h fun L xs hx => CutP (ic (thenK (fun f' h'' => ks.map f' = ks.map f ∧ L (ls.map f') h'') K)) (ks ++ ls) (ks.map f ++ xs) hx)
    (fun id K f h => K (.exit id) f h)
    (fun K f h => K .ret f h)
    (fun g ls c K f h => RangeP P (ev f g) ls (ls.map f) c h (K .normal f)) c

theorem iwpP_eq (P : Program) (c : ICode) : iwpP P c = iwp P c := by
  induction c with
  | skip => rfl
  | dops l => funext K f h; exact gdopsP_eq P l 0 [] [] (K .normal) f h
  | ops g l => funext K f h; exact opsP_eq P g l (K .normal) f h
  | seq a b iha ihb =>
    funext K f h
    show iwpP P a (thenK (iwpP P b K) K) f h = iwp P a (thenK (iwp P b K) K) f h
    rw [iha, ihb]
  | cut ls c ih =>
    funext K f h
    show CutP (iwpP P c K) ls (ls.map f) h = cutK (iwp P c K) ls (ls.map f) h
    rw [ih, CutP_eq]
  | cond c a b iha ihb =>
    funext K f h
    show IfP (ev f c) (iwpP P a K f h) (iwpP P b K f h) = condK (ev f c) (iwp P a K f h) (iwp P b K f h)
    rw [iha, ihb, IfP_eq]
  | block id c ih =>
    funext K f h
    show iwpP P c (inBlockK id K) f h = iwp P c (inBlockK id K) f h
    rw [ih]
  | loop ks ls c ih =>
    funext K f h
    show LoopP (ls.map f) h (fun L xs hx => CutP (iwpP P c (thenK (fun f' h'' => ks.map f' = ks.map f ∧ L (ls.map f') h'') K)) (ks ++ ls) (ks.map f ++ xs) hx) =
      loopK (ls.map f) h (fun L xs hx => iwp P c (thenK (fun f' h'' => ks.map f' = ks.map f ∧ L (ls.map f') h'') K) (ofl (ks ++ ls) (ks.map f ++ xs)) hx)
    rw [ih, LoopP_eq, CutP_eq]
    rfl
  | exit id => rfl
  | ret => rfl
  | range g ls c =>
    funext K f h
    show RangeP P (ev f g) ls (ls.map f) c h (K .normal f) = rangeK P (ev f g) ls (ls.map f) c h (K .normal f)
    rw [RangeP_eq]

def retP : List IRes → (Nat → Value) → Heap → (List Value → Prop) → Prop
  | [], _, _, k => k []
  | .tmp t :: rs, f, h, k => retP rs f h fun vs => k (f t :: vs)
  | .cell agg n a :: rs, f, h, k => OP (iLoad agg n h (f a)) fun v => retP rs f h fun vs => k (v :: vs)

theorem retP_eq : ∀ (rs : List IRes) (f : Nat → Value) (h : Heap) (k : List Value → Prop), retP rs f h k = retL rs f h k
  | [], _, _, _ => rfl
  | .tmp _ :: rs, f, h, k => retP_eq rs f h _
  | .cell agg n a :: rs, f, h, k => by
    rw [retP, retL, OP_eq]
    congr 1
    funext v
    exact retP_eq rs f h _

def bodyP (rs : List IRes) (K : Value → Heap → Prop) : Kont
  | .normal, f, h => retP rs f h fun vs => K (pack vs) h
  | .ret, f, h => retP rs f h fun vs => K (pack vs) h
  | _, _, _ => False

theorem bodyP_eq (rs : List IRes) (K : Value → Heap → Prop) : bodyP rs K = bodyK rs K := by
  funext e f h
  cases e <;> first | rfl | exact retP_eq rs f h _

theorem callP_intro {P : Program} {F : FuncId} {N : Nat} {ic : ICode} {rs : List IRes} {hs : Hints} {h : Heap} (hc : compFn P F hs = some (N, ic, rs)) {args : List Value} (ha : args.length ≤ N)
    {K : Value → Heap → Prop} (hi : iwpP P ic (bodyP rs K) (frame0 args) h) : CallP P F args h K :=
  .mk (icall_intro hc ha (by rw [← iwpP_eq, ← bodyP_eq]; exact hi))

end Go.Sim
