/-
  Words for contracts in the ideal machine: what the printed texts come to.
-/
import Derived.Test.YtipeennffbbglaaSim20
namespace Go.Sim

section wrappers
variable {A B : Prop} {K : Value → Prop} {K2 : Value → Heap → Prop} {v : Value} {h : Heap}

@[simp] theorem OP_some : OP (some v) K ↔ K v := ⟨fun ⟨h⟩ => h, fun h => .mk h⟩
@[simp] theorem OH_some : OH (some (v, h)) K2 ↔ K2 v h := ⟨fun ⟨h⟩ => h, fun h => .mk h⟩
theorem OP_of {o : Option Value} (ho : o = some v) (hk : K v) : OP o K := by rw [ho]; exact OP_some.2 hk
theorem OH_of {o : Option (Value × Heap)} (ho : o = some (v, h)) (hk : K2 v h) : OH o K2 := by rw [ho]; exact OH_some.2 hk
@[simp] theorem IfP_true : IfP (.bool true) A B ↔ A := ⟨fun ⟨h⟩ => by simpa [condK] using h, fun h => .mk (by simpa [condK] using h)⟩
@[simp] theorem IfP_false : IfP (.bool false) A B ↔ B := ⟨fun ⟨h⟩ => by simpa [condK] using h, fun h => .mk (by simpa [condK] using h)⟩
theorem IfP_of {b : Bool} (h1 : b = true → A) (h2 : b = false → B) : IfP (.bool b) A B := by cases b <;> simp [h1, h2]
@[simp] theorem IfP_dec {p : Prop} [Decidable p] : IfP (.bool (decide p)) A B ↔ (p → A) ∧ (¬ p → B) := by by_cases hp : p <;> simp [hp]
@[simp] theorem IfP_ndec {p : Prop} [Decidable p] : IfP (.bool (!decide p)) A B ↔ (¬ p → A) ∧ (p → B) := by by_cases hp : p <;> simp [hp]
@[simp] theorem GdP_tt : GdP (.bool true) true A B ↔ A := ⟨fun ⟨h⟩ => by simpa [guardK] using h, fun h => .mk (by simpa [guardK] using h)⟩
@[simp] theorem GdP_tf : GdP (.bool true) false A B ↔ B := ⟨fun ⟨h⟩ => by simpa [guardK] using h, fun h => .mk (by simpa [guardK] using h)⟩
@[simp] theorem GdP_ft : GdP (.bool false) true A B ↔ B := ⟨fun ⟨h⟩ => by simpa [guardK] using h, fun h => .mk (by simpa [guardK] using h)⟩
@[simp] theorem GdP_ff : GdP (.bool false) false A B ↔ A := ⟨fun ⟨h⟩ => by simpa [guardK] using h, fun h => .mk (by simpa [guardK] using h)⟩
@[simp] theorem GdP_undef {b : Bool} : GdP undef b A B ↔ B := ⟨fun ⟨h⟩ => by simpa [guardK, undef] using h, fun h => .mk (by simpa [guardK, undef] using h)⟩
theorem GdP_of {b c : Bool} (h1 : b = c → A) (h2 : b ≠ c → B) : GdP (.bool b) c A B := by cases b <;> cases c <;> simp_all
@[simp] theorem iPick_t (a b : Value) : iPick (.bool true) a b = some a := rfl
@[simp] theorem iPick_f (a b : Value) : iPick (.bool false) a b = some b := rfl

theorem CallP.mono {P : Program} {F : FuncId} {args : List Value} {K K' : Value → Heap → Prop} (hc : CallP P F args h K) (hk : ∀ v h', K v h' → K' v h') : CallP P F args h K' := by
  rw [CallP_eq] at hc ⊢
  exact hc.mono hk

end wrappers

abbrev I (n : Int) : Value := .int .i64 n
abbrev B (b : Bool) : Value := .bool b
/-- A letter. -/
abbrev cv (c : UInt8) : Value := .int .u8 (c.toNat : Int)
abbrev pt (i o : Nat) : Value := .pointer (some ⟨i, o, none⟩)

theorem wrap64 {n : Int} (h1 : -9223372036854775808 ≤ n) (h2 : n < 9223372036854775808) : IntKind.wrap .i64 n = n := by
  have e : IntKind.wrap .i64 n = if n % 18446744073709551616 ≥ 9223372036854775808 then n % 18446744073709551616 - 18446744073709551616 else n % 18446744073709551616 := by
    simp [IntKind.wrap, IntKind.bits, IntKind.signed]
  rw [e]
  split <;> omega

theorem wrapU8 {n : Int} (h1 : 0 ≤ n) (h2 : n < 256) : IntKind.wrap .u8 n = n := by
  have e : IntKind.wrap .u8 n = n % 256 := by
    simp [IntKind.wrap, IntKind.bits, IntKind.signed]
  rw [e]
  omega

section ints
variable (k : IntKind) (a b : Int)
@[simp] theorem bin_lss : iBin .lss (.int k a) (.int k b) = some (.bool (decide (a < b))) := by simp [iBin, iInt]
@[simp] theorem bin_leq : iBin .leq (.int k a) (.int k b) = some (.bool (decide (a ≤ b))) := by simp [iBin, iInt]
@[simp] theorem bin_gtr : iBin .gtr (.int k a) (.int k b) = some (.bool (decide (b < a))) := by simp [iBin, iInt]
@[simp] theorem bin_geq : iBin .geq (.int k a) (.int k b) = some (.bool (decide (b ≤ a))) := by simp [iBin, iInt]
@[simp] theorem bin_eql : iBin .eql (.int k a) (.int k b) = some (.bool (decide (a = b))) := by simp [iBin, iInt]
@[simp] theorem bin_neq : iBin .neq (.int k a) (.int k b) = some (.bool (!decide (a = b))) := by simp [iBin, iInt]
@[simp] theorem bin_add : iBin .add (.int k a) (.int k b) = some (.int k (k.wrap (a + b))) := by simp [iBin, iInt]
@[simp] theorem bin_sub : iBin .sub (.int k a) (.int k b) = some (.int k (k.wrap (a - b))) := by simp [iBin, iInt]
@[simp] theorem bin_mul : iBin .mul (.int k a) (.int k b) = some (.int k (k.wrap (a * b))) := by simp [iBin, iInt]
@[simp] theorem un_not (b : Bool) : iUn .not (.bool b) = some (.bool !b) := rfl
@[simp] theorem un_neg : iUn .neg (.int k a) = some (.int k (k.wrap (0 - a))) := rfl
@[simp] theorem conv_int (k' : IntKind) : iConv k' (.int k a) = some (.int k' (k'.wrap a)) := rfl
@[simp] theorem eqb_bool (n x y : Bool) : iEqb n (.bool x) (.bool y) = some (.bool (if n then !(x == y) else x == y)) := rfl
@[simp] theorem ext_tuple (i : Nat) (vs : Array Value) : iExt i (.tuple vs) = vs[i]? := rfl
end ints

section strings
variable (a b : List UInt8)
theorem S_nil : (Value.string ⟨#[]⟩ : Value) = S [] := rfl
@[simp] theorem bytes_lit (l : List UInt8) : bytes ⟨l.toArray⟩ = l := bytes_mk l
@[simp] theorem lenS_S : iLenS (S a) = some (I a.length) := by simp [iLenS, S]
@[simp] theorem bin_eqlS : iBin .eql (S a) (S b) = some (.bool (decide (a = b))) := by simp [iBin, iStr, S]
@[simp] theorem bin_neqS : iBin .neq (S a) (S b) = some (.bool (!decide (a = b))) := by simp [iBin, iStr, S]
theorem bin_addS (h : a.length + b.length ≤ maxLen) : iBin .add (S a) (S b) = some (S (a ++ b)) := by
  simp only [iBin, iStr, S, bytes_lit, if_pos h]
theorem idxS_S {i : Nat} (h : i < a.length) (k : IntKind) : iIdxS (S a) (.int k (i : Int)) = some (cv a[i]) := by simp [iIdxS, S, h]
theorem slS_hi {n : Nat} (h : n ≤ a.length) (k : IntKind) : iSlS (S a) none (some (.int k (n : Int))) = some (S (a.take n)) := by simp [iSlS, S, iBounds, natOf, h]
theorem slS_lo {n : Nat} (h : n ≤ a.length) (k : IntKind) : iSlS (S a) (some (.int k (n : Int))) none = some (S (a.drop n)) := by simp [iSlS, S, iBounds, natOf, h]
theorem slS_lh {l n : Nat} (h0 : l ≤ n) (h : n ≤ a.length) (k k' : IntKind) : iSlS (S a) (some (.int k (l : Int))) (some (.int k' (n : Int))) = some (S ((a.take n).drop l)) := by simp [iSlS, S, iBounds, natOf, h, h0]
end strings

theorem cv_inj (c d : UInt8) : ((c.toNat : Int) = (d.toNat : Int)) ↔ c = d := by
  rw [Int.natCast_inj]
  exact ⟨fun h => UInt8.toNat_inj.1 h, fun h => by rw [h]⟩

/-! ### Loops -/

theorem loopS {σ : Type} {init : List Value} {h : Heap} {Q : (List Value → Heap → Prop) → List Value → Heap → Prop} (enc : σ → List Value) (hp : σ → Heap) (J : σ → Prop) (μ : σ → Nat) (s0 : σ)
    (e0 : enc s0 = init) (eh : hp s0 = h) (j0 : J s0) (hr : ∀ s, J s → Q (fun ys hy => ∃ s', enc s' = ys ∧ hp s' = hy ∧ J s' ∧ μ s' < μ s) (enc s) (hp s)) : LoopP init h Q := by
  refine .mk ?_
  have least : ∀ ys hy, (∃ s, enc s = ys ∧ hp s = hy ∧ J s) → ∃ m, (∃ s, enc s = ys ∧ hp s = hy ∧ J s ∧ μ s = m) ∧ ∀ s, enc s = ys → hp s = hy → J s → m ≤ μ s := by
    rintro ys hy ⟨s, h1, h2, h3⟩
    have key : ∀ n, (∃ s, enc s = ys ∧ hp s = hy ∧ J s ∧ μ s = n) → ∃ m, (∃ s, enc s = ys ∧ hp s = hy ∧ J s ∧ μ s = m) ∧ ∀ s, enc s = ys → hp s = hy → J s → m ≤ μ s := by
      intro n
      induction n using Nat.strongRecOn with
      | _ n ih =>
        intro hn
        by_cases hlt : ∃ s, enc s = ys ∧ hp s = hy ∧ J s ∧ μ s < n
        · obtain ⟨s', a, b, c, d⟩ := hlt
          exact ih (μ s') d ⟨s', a, b, c, rfl⟩
        · exact ⟨n, hn, fun s' a b c => Nat.le_of_not_lt fun d => hlt ⟨s', a, b, c, d⟩⟩
    exact key _ ⟨s, h1, h2, h3, rfl⟩
  classical
  refine ⟨fun ys hy => ∃ s, enc s = ys ∧ hp s = hy ∧ J s, fun ys hy => if hJ : ∃ s, enc s = ys ∧ hp s = hy ∧ J s then Classical.choose (least ys hy hJ) else 0, ⟨s0, e0, eh, j0⟩, ?_⟩
  rintro xs hx hJ
  have hspec := Classical.choose_spec (least xs hx hJ)
  simp only [dif_pos hJ]
  generalize Classical.choose (least xs hx hJ) = m at hspec
  obtain ⟨⟨s, a, b, c, d⟩, _⟩ := hspec
  have := hr s c
  rw [a, b] at this
  have he : (fun (ys : List Value) (hy : Heap) => (∃ s, enc s = ys ∧ hp s = hy ∧ J s) ∧ (if hJ : ∃ s, enc s = ys ∧ hp s = hy ∧ J s then Classical.choose (least ys hy hJ) else 0) < m) =
      fun ys hy => ∃ s', enc s' = ys ∧ hp s' = hy ∧ J s' ∧ μ s' < μ s := by
    funext ys hy
    apply propext
    constructor
    · rintro ⟨hJ', hlt⟩
      rw [dif_pos hJ'] at hlt
      obtain ⟨⟨s', a', b', c', d'⟩, _⟩ := Classical.choose_spec (least ys hy hJ')
      exact ⟨s', a', b', c', by rw [d', d]; exact hlt⟩
    · rintro ⟨s', a', b', c', d'⟩
      refine ⟨⟨s', a', b', c'⟩, ?_⟩
      rw [dif_pos ⟨s', a', b', c'⟩]
      have := (Classical.choose_spec (least ys hy ⟨s', a', b', c'⟩)).2 s' a' b' c'
      omega
  rw [he]
  exact this

/-- A loop: states, what is known of one, a measure; what the next round wants of its state is 'L'. -/
theorem loopL {σ : Type} {init : List Value} {h : Heap} {Q : (List Value → Heap → Prop) → List Value → Heap → Prop} (enc : σ → List Value) (hp : σ → Heap) (J : σ → Prop) (μ : σ → Nat) (s0 : σ)
    (e0 : enc s0 = init) (eh : hp s0 = h) (j0 : J s0) (hr : ∀ s, J s → ∀ L : List Value → Heap → Prop, (∀ s', J s' → μ s' < μ s → L (enc s') (hp s')) → Q L (enc s) (hp s)) : LoopP init h Q :=
  loopS enc hp J μ s0 e0 eh j0 fun s hs => hr s hs _ fun s' h1 h2 => ⟨s', rfl, rfl, h1, h2⟩

/-! ### What a call leaves behind -/

/-- What was there is there. -/
def EX (h h' : Heap) : Prop := h.length ≤ h'.length ∧ ∀ i, i < h.length → h'[i]? = h[i]?

theorem EX.refl (h : Heap) : EX h h := ⟨Nat.le_refl _, fun _ _ => rfl⟩
theorem EX.trans {a b c : Heap} (h : EX a b) (k : EX b c) : EX a c := ⟨Nat.le_trans h.1 k.1, fun i hi => (k.2 i (Nat.lt_of_lt_of_le hi h.1)).trans (h.2 i hi)⟩
theorem EX.append (h g : Heap) : EX h (h ++ g) := ⟨by simp, fun i hi => List.getElem?_append_left hi⟩
theorem EX.push {a h : Heap} (k : EX a h) (g : Heap) : EX a (h ++ g) := k.trans (.append h g)
theorem EX.set {a h : Heap} (k : EX a h) {i : Nat} (hi : a.length ≤ i) (o : IObj) : EX a (h.set i o) := ⟨by simpa using k.1, fun j hj => by rw [List.getElem?_set_ne (by omega)]; exact k.2 j hj⟩
theorem EX.get {a h : Heap} (k : EX a h) {i : Nat} {o : IObj} (hi : a[i]? = some o) : h[i]? = some o := by rw [k.2 i (List.getElem?_eq_some_iff.1 hi).1]; exact hi
theorem EX.cells {a h : Heap} (k : EX a h) {i : Nat} {xs : List Value} (hi : objCells a i = some xs) : objCells h i = some xs := by
  unfold objCells at hi ⊢
  have hlt : i < a.length := by
    apply Classical.byContradiction
    intro hc
    rw [List.getElem?_eq_none (Nat.le_of_not_lt hc)] at hi
    simp at hi
  rw [k.2 i hlt]
  exact hi

/-- A value that names no object. -/
def scal : Value → Bool
  | .bool _ | .int .. | .string _ | .nilFunc | .nilIface => true
  | .pointer none | .map none => true
  | .slice none 0 0 => true
  | _ => false

theorem scal.rel {ρ ρ' : RMap} {v v' : Value} (h : scal v = true) (hv : VRel ρ v v') : VRel ρ' v v' := by
  unfold scal at h
  split at h
  · cases hv; exact .bool _
  · cases hv; exact .int _ _
  · cases hv; exact .string _
  · cases hv; exact .nilFunc
  · cases hv; exact .nilIface
  · cases hv; exact .nilPtr
  · cases hv; exact .nilMap
  · cases hv; exact .nilSlice
  · cases h

/-- A value of one new object, under another name of it. -/
def Ren (V : Nat → Value) : Prop := ∀ (ρ ρ' : RMap) (i j : Nat) (v' : Value), ρ' j = ρ i → VRel ρ (V i) v' → VRel ρ' (V j) v'

theorem Ren.scal {v : Value} (h : scal v = true) : Ren fun _ => v := fun _ _ _ _ _ _ hv => scal.rel h hv
theorem Ren.pt (o : Nat) : Ren fun i => pt i o := by
  intro ρ ρ' i j v' e hv
  cases hv with
  | ptr hr => exact .ptr (by rw [e]; exact hr)
theorem Ren.sl (e : TypeId) (o n : Nat) : Ren fun i => sl e i o n := by
  intro ρ ρ' i j v' he hv
  cases hv with
  | slice hr a b c d => exact .slice (by rw [he]; exact hr) a b c d

inductive RenL : List (Nat → Value) → Prop
  | nil : RenL []
  | cons {V : Nat → Value} {l : List (Nat → Value)} : Ren V → RenL l → RenL (V :: l)

theorem RenL.rel {l : List (Nat → Value)} (h : RenL l) {ρ ρ' : RMap} {i j : Nat} (e : ρ' j = ρ i) : ∀ {ys : List Value}, VsRel ρ (l.map (· i)) ys → VsRel ρ' (l.map (· j)) ys := by
  induction h with
  | nil => intro ys hv; cases hv; exact .nil
  | cons hV _ ih => intro ys hv; cases hv with | cons a b => exact .cons (hV _ _ _ _ _ e a) (ih b)

theorem Ren.tuple {l : List (Nat → Value)} (h : RenL l) : Ren fun i => .tuple (l.map (· i)).toArray := by
  intro ρ ρ' i j v' e hv
  cases hv with
  | tuple hs hr =>
    rename_i xs'
    have := h.rel e (VsRel.toArr hs hr)
    have := VRel.tupleL this
    simpa using this

theorem Ren.agg {l : List (Nat → Value)} (h : RenL l) (hc : ∀ j, ∀ V ∈ l, isCell (V j) = true) : Ren fun i => .agg (l.map (· i)).toArray := by
  intro ρ ρ' i j v' e hv
  cases hv with
  | agg hs h1 hr =>
    rename_i xs'
    have := h.rel e (VsRel.toArr hs hr)
    have := VRel.aggL this (by
      intro x hx
      simp only [List.mem_map] at hx
      obtain ⟨V, hV, rfl⟩ := hx
      exact hc j V hV)
    simpa using this

section gc
variable {P : Program} {F : FuncId} {args : List Value} {h : Heap}

/-- An object of values that name no objects. -/
def plainObj : IObj → Bool
  | .ro _ xs | .arr _ xs => xs.all scal
  | .smap es => es.all fun p => scal p.2
  | .imap _ es => es.all fun p => scal p.2
  | _ => false

theorem plainObj.rel {ρ ρ' : RMap} {w : World} {r : RI} {o : IObj} (hp : plainObj o = true) (h : objRel ρ w r o) : objRel ρ' w r o := by
  have cells : ∀ {c : Array Value} {sh : Nat} {xs : List Value}, xs.all scal = true → CellsRel ρ c sh xs → CellsRel ρ' c sh xs := by
    intro c sh xs hs hc j x hj
    obtain ⟨h1, y, hy, hr⟩ := hc j x hj
    rw [List.all_eq_true] at hs
    exact ⟨h1, y, hy, scal.rel (hs x (List.mem_of_getElem? hj)) hr⟩
  cases o with
  | ro e xs => obtain ⟨h1, c, t, fr, h2, h3, h4⟩ := h; exact ⟨h1, c, t, fr, h2, h3, cells hp h4⟩
  | arr e xs => obtain ⟨h1, h0, c, h2, h3, h4⟩ := h; exact ⟨h1, h0, c, h2, h3, cells hp h4⟩
  | smap es =>
    obtain ⟨ents, clock, h1, h2, h3⟩ := h
    refine ⟨ents, clock, h1, h2, fun j k v hj => ?_⟩
    obtain ⟨en, e1, e2, e3⟩ := h3 j k v hj
    simp only [plainObj, List.all_eq_true] at hp
    exact ⟨en, e1, e2, scal.rel (hp (k, v) (List.mem_of_getElem? hj)) e3⟩
  | imap kd es =>
    obtain ⟨ents, clock, h1, h2, h3⟩ := h
    refine ⟨ents, clock, h1, h2, fun j k v hj => ?_⟩
    obtain ⟨en, e1, e2, e3⟩ := h3 j k v hj
    simp only [plainObj, List.all_eq_true] at hp
    exact ⟨en, e1, e2, scal.rel (hp (k, v) (List.mem_of_getElem? hj)) e3⟩
  | loop c ls vs => cases hp
  | dead => cases hp

theorem slice_inv {ρ : RMap} {i o n : Nat} {e : TypeId} {y : Value} (h : VRel ρ (.slice (some ⟨i, o, some e⟩) n n) y) :
    ∃ r o' c', ρ i = some r ∧ r.elem = e ∧ y = .slice (some ⟨r.blk, o', none⟩) n c' ∧ (o' = r.sh + o ∨ (n = 0 ∧ 0 < o ∧ c' = 0)) ∧ n ≤ c' ∧ c' ≤ maxLen ∧ o' + c' * r.esz ≤ r.size := by
  cases h with
  | slice hr a b c d => exact ⟨_, _, _, hr, rfl, rfl, a, b, c, d⟩

theorem VRel.down {ρ ρ' : RMap} (hle : ρ.le ρ') {x y0 : Value} (h0 : VRel ρ x y0) : ∀ {y : Value}, VRel ρ' x y → VRel ρ x y := by
  have same : ∀ {i : Nat} {r r' : RI}, ρ i = some r → ρ' i = some r' → r' = r := fun h h' => by rw [hle _ _ h] at h'; cases h'; rfl
  induction h0 with
  | bool b => intro y h; cases h; exact .bool b
  | int k n => intro y h; cases h; exact .int k n
  | string s => intro y h; cases h; exact .string s
  | nilPtr => intro y h; cases h; exact .nilPtr
  | nilSlice => intro y h; cases h; exact .nilSlice
  | nilMap => intro y h; cases h; exact .nilMap
  | nilFunc => intro y h; cases h; exact .nilFunc
  | nilIface => intro y h; cases h; exact .nilIface
  | ptr hi => intro y h; cases h with | ptr hi' => cases same hi hi'; exact .ptr hi
  | slice hi a b c d =>
    intro y h
    obtain ⟨r', o', c', h1, h2, rfl, h3, h4, h5, h6⟩ := slice_inv h
    cases same hi h1
    exact .slice hi h3 h4 h5 h6
  | map hi => intro y h; cases h with | map hi' => cases same hi hi'; exact .map hi
  | yield hi => intro y h; cases h with | yield hi' => cases same hi hi'; exact .yield hi
  | func f s1 s2 _ _ ih1 ih2 =>
    intro y h
    cases h with
    | func _ t1 t2 q1 q2 =>
      refine .func f t1 t2 (fun k x x' e e' => ?_) (fun k x x' e e' => ?_)
      · obtain ⟨z, hz⟩ : ∃ z, _ = some z := ⟨_, Array.getElem?_eq_getElem (by rw [← s1]; exact (Array.getElem?_eq_some_iff.1 e).1)⟩
        exact ih1 k x z e hz (q1 k x x' e e')
      · obtain ⟨z, hz⟩ : ∃ z, _ = some z := ⟨_, Array.getElem?_eq_getElem (by rw [← s2]; exact (Array.getElem?_eq_some_iff.1 e).1)⟩
        exact ih2 k x z e hz (q2 k x x' e e')
  | agg s1 hc _ ih =>
    intro y h
    cases h with
    | agg t1 _ q1 =>
      refine .agg t1 hc (fun k x x' e e' => ?_)
      obtain ⟨z, hz⟩ : ∃ z, _ = some z := ⟨_, Array.getElem?_eq_getElem (by rw [← s1]; exact (Array.getElem?_eq_some_iff.1 e).1)⟩
      exact ih k x z e hz (q1 k x x' e e')
  | any v => intro y _; exact .any y
  | tuple s1 _ ih =>
    intro y h
    cases h with
    | tuple t1 q1 =>
      refine .tuple t1 (fun k x x' e e' => ?_)
      obtain ⟨z, hz⟩ : ∃ z, _ = some z := ⟨_, Array.getElem?_eq_getElem (by rw [← s1]; exact (Array.getElem?_eq_some_iff.1 e).1)⟩
      exact ih k x z e hz (q1 k x x' e e')

theorem CellsRel.down {ρ ρ' : RMap} (hle : ρ.le ρ') {c c' : Array Value} {sh sh' : Nat} {xs : List Value} (h0 : CellsRel ρ c sh xs) (h : CellsRel ρ' c' sh' xs) : CellsRel ρ c' sh' xs := by
  intro j x hj
  obtain ⟨_, y0, _, r0⟩ := h0 j x hj
  obtain ⟨c1, y, hy, r⟩ := h j x hj
  exact ⟨c1, y, hy, r0.down hle r⟩

theorem objRel.down {ρ ρ' : RMap} (hle : ρ.le ρ') {w w' : World} {r : RI} {o : IObj} (h0 : objRel ρ w r o) (h : objRel ρ' w' r o) : objRel ρ w' r o := by
  cases o with
  | ro e xs =>
    obtain ⟨_, _, _, _, _, _, b4⟩ := h0
    obtain ⟨a1, c, t, fr, a2, a3, a4⟩ := h
    exact ⟨a1, c, t, fr, a2, a3, b4.down hle a4⟩
  | arr e xs =>
    obtain ⟨_, _, _, _, _, b4⟩ := h0
    obtain ⟨a1, a0, c, a2, a3, a4⟩ := h
    exact ⟨a1, a0, c, a2, a3, b4.down hle a4⟩
  | smap es =>
    obtain ⟨_, _, _, _, b3⟩ := h0
    obtain ⟨ents, clock, a1, a2, a3⟩ := h
    refine ⟨ents, clock, a1, a2, fun j k v hj => ?_⟩
    obtain ⟨_, _, _, r0⟩ := b3 j k v hj
    obtain ⟨en, e1, e2, e3⟩ := a3 j k v hj
    exact ⟨en, e1, e2, r0.down hle e3⟩
  | imap kd es =>
    obtain ⟨_, _, _, _, b3⟩ := h0
    obtain ⟨ents, clock, a1, a2, a3⟩ := h
    refine ⟨ents, clock, a1, a2, fun j k v hj => ?_⟩
    obtain ⟨_, _, _, r0⟩ := b3 j k v hj
    obtain ⟨en, e1, e2, e3⟩ := a3 j k v hj
    exact ⟨en, e1, e2, r0.down hle e3⟩
  | loop c ls vs =>
    obtain ⟨_, _, _, _, _, _, _, _, b8⟩ := h0
    obtain ⟨rec, a1, a2, a3, a4, a5, a6, a7, a8⟩ := h
    exact ⟨rec, a1, a2, a3, a4, a5, a6, a7, fun t => (b8 t).down hle (a8 t)⟩
  | dead => trivial

/-- A call that leaves what was there, and one new object of plain values: whatever else it has made is forgotten. -/
theorem callP_new {K : Value → Heap → Prop} {V : Nat → Value} {o : IObj} (hV : Ren V) (ho : plainObj o = true)
    (hc : CallP P F args h fun u h' => EX h h' ∧ ∃ i, h.length ≤ i ∧ h'[i]? = some o ∧ u = V i) (hk : K (V h.length) (h ++ [o])) : CallP P F args h K := by
  rw [CallP_eq] at hc ⊢
  obtain ⟨u, h', hc, hex, i, hi, hget, rfl⟩ := hc
  refine ⟨_, _, ?_, hk⟩
  intro ρ args' w hv H
  refine (hc ρ args' w hv H).mono ?_
  rintro e w' ⟨v', ρ', rfl, hv', H', T⟩
  let ρ'' : RMap := fun k => if k = h.length then ρ' i else ρ k
  have r1 : ρ'' h.length = ρ' i := by simp [ρ'']
  have r2 : ∀ k, k ≠ h.length → ρ'' k = ρ k := fun k hk => by simp [ρ'', hk]
  have r3 : ∀ k r, ρ k = some r → ρ' k = some r ∧ k < h.length ∧ h'[k]? = h[k]? := fun k r hr => ⟨T.ext k r hr, H.lt hr, hex.2 k (H.lt hr)⟩
  have old : ∀ k, k < h.length → (h ++ [o])[k]? = h[k]? := fun k hk => List.getElem?_append_left hk
  have new : (h ++ [o])[h.length]? = some o := by simp
  have hle : ρ.le ρ'' := by
    intro k r hr
    rw [r2 k (by have := H.lt hr; omega)]
    exact hr
  have mt : ∀ k, k < h.length → (isMut (h ++ [o]) k ↔ isMut h' k) := fun k hk => by unfold isMut; rw [old k hk, hex.2 k hk]
  have liv : ∀ k, k < h.length → (isLive (h ++ [o]) k ↔ isLive h' k) := fun k hk => by unfold isLive; rw [old k hk, hex.2 k hk]
  have mutn : isMut (h ++ [o]) h.length ↔ isMut h' i := by unfold isMut; rw [new, hget]
  have livn : isLive (h ++ [o]) h.length ↔ isLive h' i := by unfold isLive; rw [new, hget]
  refine ⟨v', ρ'', rfl, hV ρ' ρ'' i h.length v' r1 hv', ⟨?_, ?_, ?_⟩, ?_⟩
  · intro k r hr
    by_cases e : k = h.length
    · subst e
      rw [r1] at hr
      obtain ⟨o', ho', hrel⟩ := H'.obj i r hr
      rw [hget] at ho'
      cases ho'
      exact ⟨o, new, plainObj.rel ho hrel⟩
    · rw [r2 k e] at hr
      obtain ⟨q1, q2, q3⟩ := r3 k r hr
      obtain ⟨o', ho', hrel⟩ := H.obj k r hr
      obtain ⟨o2, ho2, hrel2⟩ := H'.obj k r q1
      rw [q3, ho'] at ho2
      cases ho2
      exact ⟨o', by rw [old k q2]; exact ho', (hrel.down T.ext hrel2).mono hle rfl⟩
  · intro a b r s ha hb hrs hm hl
    by_cases ea : a = h.length <;> by_cases eb : b = h.length
    · omega
    · subst ea
      rw [r1] at ha
      rw [r2 b eb] at hb
      obtain ⟨q1, q2, q3⟩ := r3 b s hb
      have := H'.inj i b r s ha q1 hrs (mutn.1 hm) ((liv b q2).1 hl)
      omega
    · subst eb
      rw [r1] at hb
      rw [r2 a ea] at ha
      obtain ⟨q1, q2, q3⟩ := r3 a r ha
      have := H'.inj a i r s q1 hb hrs ((mt a q2).1 hm) (livn.1 hl)
      omega
    · rw [r2 a ea] at ha
      rw [r2 b eb] at hb
      obtain ⟨q1, q2, _⟩ := r3 a r ha
      obtain ⟨p1, p2, _⟩ := r3 b s hb
      exact H'.inj a b r s q1 p1 hrs ((mt a q2).1 hm) ((liv b p2).1 hl)
  · intro k r hr
    by_cases e : k = h.length
    · subst e
      rw [r1] at hr
      exact H'.esz i r hr
    · rw [r2 k e] at hr
      exact H.esz k r hr
  · exact {
      ext := hle
      len := by simp
      dom := fun k r hr => H.lt hr
      kinds := fun k hk hm => by unfold isMut at hm ⊢; rw [old k hk] at hm; exact hm
      fresh := by
        intro k r hr hn
        by_cases e : k = h.length
        · subst e
          rw [r1] at hr
          have hin : ρ i = none := by
            cases hq : ρ i with
            | none => rfl
            | some q => exact absurd (H.lt hq) (by omega)
          exact ⟨Nat.le_refl _, (T.fresh i r hr hin).2⟩
        · rw [r2 k e] at hr
          rw [hr] at hn
          cases hn
      wsize := T.wsize
      wblk := T.wblk
      os := T.os
      tape := T.tape
      output := T.output }

/-- A call that leaves what was there and returns a plain value: what it has made is forgotten. -/
theorem callP_gc {K : Value → Heap → Prop} {v : Value} (hV : Ren fun _ => v) (hc : CallP P F args h fun u h' => u = v ∧ EX h h') (hk : K v h) : CallP P F args h K := by
  rw [CallP_eq] at hc ⊢
  obtain ⟨u, h', hc, rfl, hex⟩ := hc
  refine ⟨_, _, ?_, hk⟩
  intro ρ args' w hv H
  refine (hc ρ args' w hv H).mono ?_
  rintro e w' ⟨v', ρ', rfl, hv', H', T⟩
  have r3 : ∀ k r, ρ k = some r → ρ' k = some r ∧ k < h.length ∧ h'[k]? = h[k]? := fun k r hr => ⟨T.ext k r hr, H.lt hr, hex.2 k (H.lt hr)⟩
  have mt : ∀ k, k < h.length → (isMut h k ↔ isMut h' k) := fun k hk => by unfold isMut; rw [hex.2 k hk]
  have liv : ∀ k, k < h.length → (isLive h k ↔ isLive h' k) := fun k hk => by unfold isLive; rw [hex.2 k hk]
  have hnew : ρ h.length = none := H.none
  have hn' : ∃ i, ρ i = ρ' h'.length := ⟨h.length, by rw [hnew, H'.none]⟩
  refine ⟨v', ρ, rfl, hV ρ' ρ h'.length h.length v' (by rw [hnew, H'.none]) hv', ⟨?_, ?_, H.esz⟩, ?_⟩
  · intro k r hr
    obtain ⟨q1, q2, q3⟩ := r3 k r hr
    obtain ⟨o', ho', hrel⟩ := H.obj k r hr
    obtain ⟨o2, ho2, hrel2⟩ := H'.obj k r q1
    rw [q3, ho'] at ho2
    cases ho2
    exact ⟨o', ho', hrel.down T.ext hrel2⟩
  · intro a b r s ha hb hrs hm hl
    obtain ⟨q1, q2, _⟩ := r3 a r ha
    obtain ⟨p1, p2, _⟩ := r3 b s hb
    exact H'.inj a b r s q1 p1 hrs ((mt a q2).1 hm) ((liv b p2).1 hl)
  · exact {
      ext := .refl _
      len := Nat.le_refl _
      dom := fun k r hr => H.lt hr
      kinds := fun _ _ h => h
      fresh := fun k r h1 h2 => by rw [h1] at h2; cases h2
      wsize := T.wsize
      wblk := T.wblk
      os := T.os
      tape := T.tape
      output := T.output }

/-- A call from an empty heap, whose arguments and result are plain: it is the same call from every heap. -/
theorem callP_any {K : Value → Heap → Prop} {v : Value} {h' : Heap} (hV : Ren fun _ => v) (hc : ICall P F args [] v h') (ha : args.all scal = true) (hk : K v h) : CallP P F args h K := by
  rw [CallP_eq]
  refine ⟨v, h, ?_, hk⟩
  intro ρ args' w hv H
  have hv0 : ∀ {xs ys : List Value}, xs.all scal = true → VsRel ρ xs ys → VsRel (fun _ => none) xs ys := by
    intro xs ys hs hr
    induction hr with
    | nil => exact .nil
    | cons a _ ih => simp only [List.all_cons, Bool.and_eq_true] at hs; exact .cons (scal.rel hs.1 a) (ih hs.2)
  have H0 : HRel P (fun _ => none) [] w := ⟨fun i r hi => (by cases hi), fun i j r s hi => (by cases hi), fun i r hi => (by cases hi)⟩
  refine (hc _ args' w (hv0 ha hv) H0).mono ?_
  rintro e w' ⟨v', ρ', rfl, hv', H', T⟩
  have keep : ∀ b, b < w.heap.size → w'.heap[b]? = w.heap[b]? := fun b hb => T.wblk b hb fun j s hj => (by cases hj)
  refine ⟨v', ρ, rfl, hV ρ' ρ h'.length h.length v' (by rw [H.none, H'.none]) hv', ⟨?_, H.inj, H.esz⟩, ?_⟩
  · intro k r hr
    obtain ⟨o, ho, hrel⟩ := H.obj k r hr
    refine ⟨o, ho, ?_⟩
    by_cases hd : o = .dead
    · subst hd; trivial
    · exact hrel.mono (.refl _) (keep _ (objBlk H hr ⟨o, ho, hd⟩))
  · exact {
      ext := .refl _
      len := Nat.le_refl _
      dom := fun k r hr => H.lt hr
      kinds := fun _ _ h => h
      fresh := fun k r h1 h2 => by rw [h1] at h2; cases h2
      wsize := T.wsize
      wblk := fun b hb _ => keep b hb
      os := T.os
      tape := T.tape
      output := T.output }
end gc
end Go.Sim
