/-
  The ideal heap and the relation between it and the model's world.
-/
import Derived.WalkKit
import Derived.Laws.Append
import Derived.Laws.AppendOwn
import Derived.Laws.MakeOwn
import Derived.Laws.BytesString
import Derived.RangeFuncRecord
namespace Go.Sim

/-- Where an ideal object lies: its block, the shift inside it, the element's type and size, the block's cells. -/
structure RI where
  blk : Nat
  sh : Nat
  elem : TypeId
  esz : Nat
  size : Nat

abbrev RMap := Nat → Option RI

/-- A range over a function: its frame's size, yield's parameters, what is done before and in each round. -/
structure LoopC where
  N : Nat
  ps : Array Tmp
  asg : Code
  body : Code

inductive IObj where
  | ro (e : TypeId) (xs : List Value)
  | arr (e : TypeId) (xs : List Value)
  | smap (es : List (ByteArray × Value))
  | loop (c : LoopC) (ls : List Nat) (vs : List Value)
  | dead

abbrev Heap := List IObj

/-- A slot of which nothing is known. -/
abbrev bot : Value := .complex .f32 0 0

/-- A frame of which some slots are known. -/
def ofl : List Nat → List Value → Nat → Value
  | l :: ls, v :: vs, j => match Nat.beq j l with | true => v | false => ofl ls vs j
  | _, _, _ => bot

theorem ofl_cons (l : Nat) (ls : List Nat) (v : Value) (vs : List Value) (j : Nat) : ofl (l :: ls) (v :: vs) j = if j = l then v else ofl ls vs j := by
  show (match Nat.beq j l with | true => v | false => ofl ls vs j) = _
  split
  · rename_i h; rw [if_pos (Nat.eq_of_beq_eq_true h)]
  · rename_i h; rw [if_neg (Nat.ne_of_beq_eq_false h)]

/-- The value of one cell. -/
def isCell : Value → Bool
  | .agg _ | .tuple _ | .complex _ _ _ => false
  | _ => true

inductive VRel (ρ : RMap) : Value → Value → Prop
  | bool (b : Bool) : VRel ρ (.bool b) (.bool b)
  | int (k : IntKind) (n : Int) : VRel ρ (.int k n) (.int k n)
  | string (s : ByteArray) : VRel ρ (.string s) (.string s)
  | nilPtr : VRel ρ (.pointer none) (.pointer none)
  | nilSlice : VRel ρ (.slice none 0 0) (.slice none 0 0)
  | nilMap : VRel ρ (.map none) (.map none)
  | nilFunc : VRel ρ .nilFunc .nilFunc
  | nilIface : VRel ρ .nilIface .nilIface
  | ptr {i o : Nat} {r : RI} : ρ i = some r → VRel ρ (.pointer (some ⟨i, o, none⟩)) (.pointer (some ⟨r.blk, r.sh + o, none⟩))
  | slice {i o n o' c' : Nat} {r : RI} : ρ i = some r → (o' = r.sh + o ∨ (n = 0 ∧ 0 < o ∧ c' = 0)) → n ≤ c' → c' ≤ maxLen → o' + c' * r.esz ≤ r.size →
      VRel ρ (.slice (some ⟨i, o, some r.elem⟩) n n) (.slice (some ⟨r.blk, o', none⟩) n c')
  | map {i : Nat} {r : RI} : ρ i = some r → VRel ρ (.map (some i)) (.map (some r.blk))
  | func (f : FuncId) {xs ys xs' ys' : Array Value} : xs.size = xs'.size → ys.size = ys'.size →
      (∀ (k : Nat) (x x' : Value), xs[k]? = some x → xs'[k]? = some x' → VRel ρ x x') →
      (∀ (k : Nat) (x x' : Value), ys[k]? = some x → ys'[k]? = some x' → VRel ρ x x') → VRel ρ (.func (.func f) xs ys) (.func (.func f) xs' ys')
  | yield {i : Nat} {r : RI} : ρ i = some r → VRel ρ (.func (.yield i) #[] #[]) (.func (.yield r.blk) #[] #[])
  | agg {xs xs' : Array Value} : xs.size = xs'.size → (∀ x ∈ xs.toList, isCell x = true) → (∀ (k : Nat) (x x' : Value), xs[k]? = some x → xs'[k]? = some x' → VRel ρ x x') → VRel ρ (.agg xs) (.agg xs')
  | any (v : Value) : VRel ρ (.complex .f32 0 0) v
  | tuple {xs xs' : Array Value} : xs.size = xs'.size → (∀ (k : Nat) (x x' : Value), xs[k]? = some x → xs'[k]? = some x' → VRel ρ x x') → VRel ρ (.tuple xs) (.tuple xs')

def RMap.le (ρ ρ' : RMap) : Prop := ∀ i r, ρ i = some r → ρ' i = some r

theorem RMap.le.refl (ρ : RMap) : ρ.le ρ := fun _ _ h => h
theorem RMap.le.trans {a b c : RMap} (h : a.le b) (k : b.le c) : a.le c := fun i r e => k i r (h i r e)

theorem VRel.mono {ρ ρ' : RMap} (h : ρ.le ρ') {v v' : Value} (hv : VRel ρ v v') : VRel ρ' v v' := by
  induction hv with
  | bool b => exact .bool b
  | int k n => exact .int k n
  | string s => exact .string s
  | nilPtr => exact .nilPtr
  | nilSlice => exact .nilSlice
  | nilMap => exact .nilMap
  | nilFunc => exact .nilFunc
  | nilIface => exact .nilIface
  | ptr hi => exact .ptr (h _ _ hi)
  | slice hi a b c d => exact .slice (h _ _ hi) a b c d
  | map hi => exact .map (h _ _ hi)
  | func f a b _ _ ih1 ih2 => exact .func f a b (fun k x x' e e' => ih1 k x x' e e') (fun k x x' e e' => ih2 k x x' e e')
  | yield hi => exact .yield (h _ _ hi)
  | agg a b _ ih => exact .agg a b (fun k x x' e e' => ih k x x' e e')
  | any v => exact .any v
  | tuple a _ ih => exact .tuple a (fun k x x' e e' => ih k x x' e e')

theorem VRel.undef (ρ : RMap) : VRel ρ undef undef := .tuple rfl (fun k x x' e e' => by simp at e)

/-- Lists (and arrays) that are related element by element. -/
inductive VsRel (ρ : RMap) : List Value → List Value → Prop
  | nil : VsRel ρ [] []
  | cons {x y : Value} {xs ys : List Value} : VRel ρ x y → VsRel ρ xs ys → VsRel ρ (x :: xs) (y :: ys)

theorem VsRel.mono {ρ ρ' : RMap} (h : ρ.le ρ') {xs ys : List Value} (hv : VsRel ρ xs ys) : VsRel ρ' xs ys := by
  induction hv with
  | nil => exact .nil
  | cons a _ ih => exact .cons (a.mono h) ih

theorem VsRel.length {ρ : RMap} {xs ys : List Value} (hv : VsRel ρ xs ys) : xs.length = ys.length := by
  induction hv with
  | nil => rfl
  | cons _ _ ih => simp [ih]

theorem VsRel.get {ρ : RMap} {xs ys : List Value} (hv : VsRel ρ xs ys) : ∀ {k : Nat} {x : Value}, xs[k]? = some x → ∃ y, ys[k]? = some y ∧ VRel ρ x y := by
  induction hv with
  | nil => intro k x h; simp at h
  | cons a _ ih =>
    intro k x h
    cases k with
    | zero => simp at h; subst h; exact ⟨_, by simp, a⟩
    | succ k => simp at h; obtain ⟨y, hy, hr⟩ := ih h; exact ⟨y, by simpa using hy, hr⟩

theorem VsRel.append {ρ : RMap} {xs ys xs' ys' : List Value} (h : VsRel ρ xs ys) (h' : VsRel ρ xs' ys') : VsRel ρ (xs ++ xs') (ys ++ ys') := by
  induction h with
  | nil => exact h'
  | cons a _ ih => exact .cons a ih

theorem VsRel.of_get {ρ : RMap} : ∀ {xs ys : List Value}, xs.length = ys.length → (∀ (k : Nat) (x y : Value), xs[k]? = some x → ys[k]? = some y → VRel ρ x y) → VsRel ρ xs ys
  | [], [], _, _ => .nil
  | x :: xs, y :: ys, hl, h => .cons (h 0 x y rfl rfl) (VsRel.of_get (by simpa using hl) fun k a b ha hb => h (k + 1) a b (by simpa using ha) (by simpa using hb))

theorem VsRel.take {ρ : RMap} {xs ys : List Value} (h : VsRel ρ xs ys) : ∀ n, VsRel ρ (xs.take n) (ys.take n) := by
  induction h with
  | nil => intro n; simp; exact .nil
  | cons a _ ih => intro n; cases n with
    | zero => exact .nil
    | succ n => exact .cons a (ih n)

theorem VsRel.drop {ρ : RMap} {xs ys : List Value} (h : VsRel ρ xs ys) : ∀ n, VsRel ρ (xs.drop n) (ys.drop n) := by
  induction h with
  | nil => intro n; simp; exact .nil
  | cons a b ih => intro n; cases n with
    | zero => exact .cons a b
    | succ n => exact ih n

theorem VsRel.set {ρ : RMap} {xs ys : List Value} (h : VsRel ρ xs ys) {v v' : Value} (hv : VRel ρ v v') : ∀ n, VsRel ρ (xs.set n v) (ys.set n v') := by
  induction h with
  | nil => intro n; simp; exact .nil
  | cons a b ih => intro n; cases n with
    | zero => exact .cons hv b
    | succ n => exact .cons a (ih n)

theorem VsRel.toArr {ρ : RMap} {xs xs' : Array Value} (hs : xs.size = xs'.size) (h : ∀ (k : Nat) (x x' : Value), xs[k]? = some x → xs'[k]? = some x' → VRel ρ x x') : VsRel ρ xs.toList xs'.toList :=
  VsRel.of_get (by simpa using hs) fun k x y hx hy => h k x y (by simpa using hx) (by simpa using hy)

theorem VsRel.ofList {ρ : RMap} {xs xs' : List Value} (h : VsRel ρ xs xs') : ∀ (k : Nat) (x x' : Value), xs.toArray[k]? = some x → xs'.toArray[k]? = some x' → VRel ρ x x' := by
  intro k x x' hx hx'
  obtain ⟨y, hy, hr⟩ := h.get (k := k) (x := x) (by simpa using hx)
  simp at hx'
  rw [hy] at hx'
  cases hx'
  exact hr

theorem VRel.aggL {ρ : RMap} {xs xs' : List Value} (h : VsRel ρ xs xs') (h1 : ∀ x ∈ xs, isCell x = true) : VRel ρ (.agg xs.toArray) (.agg xs'.toArray) := .agg (by simpa using h.length) (by simpa using h1) h.ofList
theorem VRel.tupleL {ρ : RMap} {xs xs' : List Value} (h : VsRel ρ xs xs') : VRel ρ (.tuple xs.toArray) (.tuple xs'.toArray) := .tuple (by simpa using h.length) h.ofList

/-- A value's cells, as a list. -/
def vcells (v : Value) : List Value := v.cells.toList

/-- A value that can be stored: no tuple, and known. -/
def noTuple : Value → Bool
  | .tuple _ | .complex _ _ _ => false
  | _ => true

theorem VRel.cells {ρ : RMap} {v v' : Value} (h : VRel ρ v v') (hn : noTuple v = true) : VsRel ρ (vcells v) (vcells v') := by
  cases h with
  | any _ => simp [noTuple] at hn
  | agg hs _ h => exact VsRel.toArr hs h
  | bool b => exact .cons (.bool b) .nil
  | int k n => exact .cons (.int k n) .nil
  | string s => exact .cons (.string s) .nil
  | nilPtr => exact .cons .nilPtr .nil
  | nilSlice => exact .cons .nilSlice .nil
  | nilMap => exact .cons .nilMap .nil
  | nilFunc => exact .cons .nilFunc .nil
  | nilIface => exact .cons .nilIface .nil
  | ptr hi => exact .cons (.ptr hi) .nil
  | slice hi a b c d => exact .cons (.slice hi a b c d) .nil
  | map hi => exact .cons (.map hi) .nil
  | func f a b c d => exact .cons (.func f a b c d) .nil
  | yield hi => exact .cons (.yield hi) .nil
  | tuple a b => simp [noTuple] at hn

def isLive (h : Heap) (i : Nat) : Prop := ∃ o, h[i]? = some o ∧ o ≠ .dead
def isMut (h : Heap) (i : Nat) : Prop := (∃ e xs, h[i]? = some (.arr e xs)) ∨ (∃ es, h[i]? = some (.smap es)) ∨ (∃ c ls vs, h[i]? = some (.loop c ls vs))

theorem isMut.live {h : Heap} {i : Nat} (hm : isMut h i) : isLive h i := by
  rcases hm with ⟨e, xs, hm⟩ | ⟨es, hm⟩ | ⟨c, ls, vs, hm⟩
  · exact ⟨_, hm, by simp⟩
  · exact ⟨_, hm, by simp⟩
  · exact ⟨_, hm, by simp⟩

/-- The cells of a block, from its shift on, begin with the values. -/
def CellsRel (ρ : RMap) (c : Array Value) (sh : Nat) (xs : List Value) : Prop := ∀ (j : Nat) (x : Value), xs[j]? = some x → isCell x = true ∧ ∃ y, c[sh + j]? = some y ∧ VRel ρ x y

theorem VRel.oneCell {ρ : RMap} {v v' : Value} (h : VRel ρ v v') (hc : isCell v = true) : v'.oneCell' = true := by
  cases h <;> first | rfl | simp [isCell] at hc

theorem VsRel.oneCell {ρ : RMap} {xs ys : List Value} (h : VsRel ρ xs ys) (h1 : ∀ x ∈ xs, isCell x = true) : ∀ y ∈ ys, y.oneCell' = true := by
  induction h with
  | nil => intro y hy; simp at hy
  | cons a _ ih =>
    intro y hy
    rcases List.mem_cons.1 hy with rfl | hy
    · exact a.oneCell (h1 _ (by simp))
    · exact ih (fun x hx => h1 x (by simp [hx])) y hy

theorem VRel.cellsOne {ρ : RMap} {v v' : Value} (h : VRel ρ v v') (ht : noTuple v = true) : ∀ x ∈ vcells v, isCell x = true := by
  cases h with
  | agg hs h1 h => exact h1
  | tuple _ _ => simp [noTuple] at ht
  | any _ => simp [noTuple] at ht
  | _ => intro x hx; simp [vcells, Value.cells] at hx; subst hx; rfl

theorem CellsRel.of {ρ : RMap} {xs : List Value} {c : Array Value} (h : VsRel ρ xs c.toList) (h1 : ∀ x ∈ xs, isCell x = true) : CellsRel ρ c 0 xs := by
  intro j x hj
  obtain ⟨y, hy, hr⟩ := h.get hj
  exact ⟨h1 x (List.mem_of_getElem? hj), y, by simpa using hy, hr⟩

def objRel (ρ : RMap) (w : World) (r : RI) : IObj → Prop
  | .ro e xs => r.elem = e ∧ ∃ c t fr, w.heap[r.blk]? = some (.cells c t fr) ∧ c.size = r.size ∧ CellsRel ρ c r.sh xs
  | .arr e xs => r.elem = e ∧ r.sh = 0 ∧ ∃ c, w.heap[r.blk]? = some (.cells c e (0, 0)) ∧ c.size = r.size ∧ CellsRel ρ c 0 xs
  | .smap es => ∃ ents clock, w.heap[r.blk]? = some (.map ents clock) ∧ ents.size = es.length ∧
      ∀ (j : Nat) (k : ByteArray) (v : Value), es[j]? = some (k, v) → ∃ en, ents[j]? = some en ∧ en.key = .string k ∧ VRel ρ v en.val
  | .loop c ls vs => ∃ rec, w.heap[r.blk]? = some (.loop rec) ∧ rec.state = .ready ∧ rec.pending = none ∧ rec.assign = c.asg ∧ rec.body = c.body ∧ rec.params = c.ps ∧ rec.tmps.size = c.N ∧
      ∀ t, VRel ρ (ofl ls vs t) (rec.tmps.getD t Go.undef)
  | .dead => True

structure HRel (P : Program) (ρ : RMap) (h : Heap) (w : World) : Prop where
  obj : ∀ i r, ρ i = some r → ∃ o, h[i]? = some o ∧ objRel ρ w r o
  inj : ∀ i j r s, ρ i = some r → ρ j = some s → r.blk = s.blk → isMut h i → isLive h j → i = j
  esz : ∀ i r, ρ i = some r → r.esz = P.cellsOf r.elem

theorem HRel.lt {P : Program} {ρ : RMap} {h : Heap} {w : World} (H : HRel P ρ h w) {i : Nat} {r : RI} (hi : ρ i = some r) : i < h.length := by
  obtain ⟨o, ho, _⟩ := H.obj i r hi
  exact (List.getElem?_eq_some_iff.1 ho).1

/-- What a step of the ideal machine and of the model may change. -/
structure Tr (ρ : RMap) (h : Heap) (w : World) (ρ' : RMap) (h' : Heap) (w' : World) : Prop where
  ext : ρ.le ρ'
  len : h.length ≤ h'.length
  dom : ∀ i r, ρ i = some r → i < h.length
  kinds : ∀ i, i < h.length → isMut h' i → isMut h i
  fresh : ∀ i r, ρ' i = some r → ρ i = none → h.length ≤ i ∧ (w.heap.size ≤ r.blk ∨ ∃ j s, ρ j = some s ∧ s.blk = r.blk ∧ isMut h j)
  wsize : w.heap.size ≤ w'.heap.size
  wblk : ∀ b, b < w.heap.size → (∀ j s, ρ j = some s → s.blk = b → ¬ isMut h j) → w'.heap[b]? = w.heap[b]?
  os : w'.os = w.os
  tape : w'.tape = w.tape
  output : w'.output = w.output

theorem Tr.refl {P : Program} {ρ : RMap} {h : Heap} {w : World} (H : HRel P ρ h w) : Tr ρ h w ρ h w where
  ext := .refl _
  len := Nat.le_refl _
  dom := fun _ _ hi => H.lt hi
  kinds := fun _ _ h => h
  fresh := fun i r h1 h2 => by rw [h1] at h2; cases h2
  wsize := Nat.le_refl _
  wblk := fun _ _ _ => rfl
  os := rfl
  tape := rfl
  output := rfl

theorem Tr.trans {ρ₁ ρ₂ ρ₃ : RMap} {h₁ h₂ h₃ : Heap} {w₁ w₂ w₃ : World} (a : Tr ρ₁ h₁ w₁ ρ₂ h₂ w₂) (b : Tr ρ₂ h₂ w₂ ρ₃ h₃ w₃) : Tr ρ₁ h₁ w₁ ρ₃ h₃ w₃ where
  ext := a.ext.trans b.ext
  len := Nat.le_trans a.len b.len
  dom := a.dom
  kinds := fun i hi hm => a.kinds i hi (b.kinds i (Nat.lt_of_lt_of_le hi a.len) hm)
  fresh := by
    intro i r h3 h1
    cases h2 : ρ₂ i with
    | some r2 =>
      have := b.ext i r2 h2
      rw [h3] at this
      cases this
      exact a.fresh i r h2 h1
    | none =>
      obtain ⟨hl, hb⟩ := b.fresh i r h3 h2
      refine ⟨Nat.le_trans a.len hl, ?_⟩
      rcases hb with hb | ⟨j, s, hj, hs, hm⟩
      · exact .inl (Nat.le_trans a.wsize hb)
      · cases h1j : ρ₁ j with
        | some s' =>
          have := a.ext j s' h1j
          rw [hj] at this
          cases this
          exact .inr ⟨j, s, h1j, hs, a.kinds j (a.dom j s h1j) hm⟩
        | none =>
          obtain ⟨_, h⟩ := a.fresh j s hj h1j
          rw [hs] at h
          rcases h with h | ⟨j', s', q1, q2, q3⟩
          · exact .inl h
          · exact .inr ⟨j', s', q1, q2, q3⟩
  wsize := Nat.le_trans a.wsize b.wsize
  wblk := by
    intro k hk hno
    rw [b.wblk k (Nat.lt_of_lt_of_le hk a.wsize) ?_, a.wblk k hk hno]
    intro j s hj hs hm
    cases h1j : ρ₁ j with
    | some s' =>
      have := a.ext j s' h1j
      rw [hj] at this
      cases this
      exact hno j s h1j hs (a.kinds j (a.dom j s h1j) hm)
    | none =>
      obtain ⟨_, h⟩ := a.fresh j s hj h1j
      rcases h with h | ⟨j', s', q1, q2, q3⟩
      · omega
      · exact hno j' s' q1 (by omega) q3
  os := b.os.trans a.os
  tape := b.tape.trans a.tape
  output := b.output.trans a.output

/-- A draw of the tape changes nothing that matters. -/
theorem HRel.drew {P : Program} {ρ : RMap} {h : Heap} {w : World} (H : HRel P ρ h w) (n : Nat) : HRel P ρ h { w with drawn := n } :=
  ⟨fun i r hi => let ⟨o, ho, hr⟩ := H.obj i r hi; ⟨o, ho, by cases o <;> exact hr⟩, H.inj, H.esz⟩

theorem Tr.drew {P : Program} {ρ : RMap} {h : Heap} {w : World} (H : HRel P ρ h w) (n : Nat) : Tr ρ h w ρ h { w with drawn := n } where
  ext := .refl _
  len := Nat.le_refl _
  dom := fun _ _ hi => H.lt hi
  kinds := fun _ _ h => h
  fresh := fun i r h1 h2 => by rw [h1] at h2; cases h2
  wsize := Nat.le_refl _
  wblk := fun _ _ _ => rfl
  os := rfl
  tape := rfl
  output := rfl

/-- What a range over a function leaves among the deferred calls. -/
def mark (D : Nat) : Deferred := { target := .collected D, args := #[] }

/-- Marks of blocks that are not older than B, each of its own. -/
def marks (B : Nat) : List Deferred → World → Prop
  | [], w => B ≤ w.heap.size
  | d :: ds, w => (∃ D, d = mark D ∧ B ≤ D ∧ w.heap[D]? = some (.deferred (some [])) ∧ ∀ d' ∈ ds, d' ≠ mark D) ∧ marks B ds w

/-- The block of a live object holds no loop's deferred calls. -/
theorem HRel.notDef {P : Program} {ρ : RMap} {h : Heap} {w : World} (H : HRel P ρ h w) {D : Nat} {x : Option (List Deferred)} (hD : w.heap[D]? = some (.deferred x)) {j : Nat} {s : RI} (hj : ρ j = some s) (hs : s.blk = D) : ¬ isLive h j := by
  rintro ⟨o, ho, hne⟩
  obtain ⟨o', ho', hr⟩ := H.obj j s hj
  rw [ho] at ho'
  cases ho'
  subst hs
  cases o with
  | ro e xs => obtain ⟨_, c, _, fr, h2, _⟩ := hr; rw [hD] at h2; cases h2
  | arr e xs => obtain ⟨_, _, c, h2, _⟩ := hr; rw [hD] at h2; cases h2
  | smap es => obtain ⟨ents, clock, h1, _⟩ := hr; rw [hD] at h1; cases h1
  | loop c ls vs => obtain ⟨rec, h1, _⟩ := hr; rw [hD] at h1; cases h1
  | dead => exact hne rfl

theorem marks.tr {P : Program} {ρ ρ' : RMap} {h h' : Heap} {w w' : World} (H : HRel P ρ h w) (T : Tr ρ h w ρ' h' w') {B : Nat} : ∀ {ds : List Deferred}, marks B ds w → marks B ds w'
  | [], hb => Nat.le_trans hb T.wsize
  | d :: ds, ⟨⟨D, h1, h2, h3, h4⟩, h5⟩ =>
    ⟨⟨D, h1, h2, by rw [T.wblk D (Array.getElem?_eq_some_iff.1 h3).1 fun j s hj hs hm => H.notDef h3 hj hs hm.live]; exact h3, h4⟩, marks.tr H T h5⟩

theorem marks.lt {B : Nat} {w : World} : ∀ {ds : List Deferred}, marks B ds w → ∀ d ∈ ds, ∃ D, d = mark D ∧ D < w.heap.size
  | [], _, d, hd => by simp at hd
  | d :: ds, ⟨⟨D, h1, h2, h3, h4⟩, h5⟩, d', hd => by
    rcases List.mem_cons.1 hd with rfl | hd
    · exact ⟨D, h1, (Array.getElem?_eq_some_iff.1 h3).1⟩
    · exact marks.lt h5 d' hd

theorem marks.base {B : Nat} {w : World} : ∀ {ds : List Deferred}, marks B ds w → B ≤ w.heap.size
  | [], h => h
  | _ :: _, h => marks.base h.2

theorem mark_inj {a b : Nat} (h : mark a = mark b) : a = b := by
  simp [mark] at h
  exact h

/-- The frame: the model's temporaries hold what the ideal ones hold. -/
structure Rel (P : Program) (N : Nat) (B : Nat) (ρ : RMap) (f : Nat → Value) (h : Heap) (a : Act) (w : World) : Prop where
  size : a.tmps.size = N
  defers : marks B a.defers w
  tmp : ∀ t, VRel ρ (f t) (a.tmps.getD t Go.undef)
  heap : HRel P ρ h w

def upd (f : Nat → Value) (t : Nat) (v : Value) : Nat → Value := fun j => match Nat.beq j t with | true => v | false => f j

theorem upd_eq (f : Nat → Value) (t : Nat) (v : Value) : upd f t v = fun j => if j = t then v else f j := by
  funext j
  unfold upd
  split
  · rename_i h; rw [if_pos (Nat.eq_of_beq_eq_true h)]
  · rename_i h; rw [if_neg (Nat.ne_of_beq_eq_false h)]

def ev (f : Nat → Value) : Operand → Value
  | .tmp t => f t
  | .const v => v
  | .global g => .pointer (some ⟨g, 0, none⟩)
  | .func f => .func (.func f) #[] #[]

/-- An operand that can be read: no global; a constant is closed. -/
def cvOk : Value → Bool
  | .bool _ | .int .. | .string _ | .nilFunc | .nilIface => true
  | .pointer none | .map none => true
  | .slice none 0 0 => true
  | _ => false

def opdOk : Operand → Bool
  | .tmp _ => true
  | .const v => cvOk v
  | .global _ => false
  | .func _ => true

theorem cvOk.rel {ρ : RMap} {v : Value} (h : cvOk v = true) : VRel ρ v v := by
  unfold cvOk at h
  split at h
  · exact .bool _
  · exact .int _ _
  · exact .string _
  · exact .nilFunc
  · exact .nilIface
  · exact .nilPtr
  · exact .nilMap
  · exact .nilSlice
  · simp at h

theorem Rel.ev {P : Program} {N B : Nat} {ρ : RMap} {f : Nat → Value} {h : Heap} {a : Act} {w : World} (R : Rel P N B ρ f h a w) {x : Operand} (hx : opdOk x = true) :
    VRel ρ (ev f x) (a.eval x) := by
  cases x with
  | tmp t => exact R.tmp t
  | const v => exact cvOk.rel hx
  | global g => simp [opdOk] at hx
  | func g => exact .func g rfl rfl (fun k x x' e e' => by simp at e) (fun k x x' e e' => by simp at e)

theorem Rel.put {P : Program} {N B : Nat} {ρ ρ' : RMap} {f : Nat → Value} {h h' : Heap} {a : Act} {w w' : World} (R : Rel P N B ρ f h a w) {d : Nat} (hd : d < N) {v v' : Value}
    (T : Tr ρ h w ρ' h' w') (hv : VRel ρ' v v') (H : HRel P ρ' h' w') : Rel P N B ρ' (upd f d v) h' (a.put (some d) v') w' where
  size := by simp [Act.put, R.size]
  defers := marks.tr R.heap T R.defers
  tmp := by
    intro t
    simp only [upd_eq]
    by_cases ht : t = d
    · subst ht
      have : t < a.tmps.size := by rw [R.size]; exact hd
      simp [Act.put, Array.getD, this]
      exact hv
    · rw [if_neg ht]
      have := (R.tmp t).mono T.ext
      have e : ((a.put (some d) v').tmps.getD t Go.undef) = a.tmps.getD t Go.undef := by
        simp only [Act.put, Array.getD_eq_getD_getElem?, Array.getElem?_setIfInBounds]
        rw [if_neg (by omega)]
      rw [e]
      exact this
  heap := H

theorem Rel.mono {P : Program} {N B : Nat} {ρ ρ' : RMap} {f : Nat → Value} {h h' : Heap} {a : Act} {w w' : World} (R : Rel P N B ρ f h a w) (T : Tr ρ h w ρ' h' w') (H : HRel P ρ' h' w') :
    Rel P N B ρ' f h' a w' := ⟨R.size, marks.tr R.heap T R.defers, fun t => (R.tmp t).mono T.ext, H⟩

end Go.Sim
