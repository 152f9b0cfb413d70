/-
  Part 5 of the texts behind a statement of this seat: Mk16, Mk17, Mk18, Mk19, DH, Mk20, DQ, Mk28, Mk21, DD, DE, Sp6, Sp13, DF, Mk12, DM, Mk23, Mk14, Mk25, DO.
-/
import Derived.Test.YthplaillblmgfaaDoorProg
import Derived.KernelRfl
import Derived.Test.YthplaillblmgfaaDoorCodes4
namespace Go.Proofs.YthplaillblmgfaaDoor
open Go.Sim

def isBit (c : UInt8) : Bool := c == 48 || c == 49
def bitsB (s : List UInt8) : Bool := s.all isBit

/-- The set of the two letters. -/
def asV : List Value := (List.range 256).map fun i => .bool (i == 48 || i == 49)

theorem asV_len : asV.length = 256 := by simp [asV]
theorem asV_get (c : UInt8) : asV[c.toNat]? = some (B (isBit c)) := by
  have h := c.toNat_lt
  unfold asV
  rw [List.getElem?_map, List.getElem?_range (by omega)]
  have e : (c.toNat == 48 || c.toNat == 49) = isBit c := by
    have e1 : (c.toNat == 48) = (c == 48) := by
      rw [Bool.eq_iff_iff, beq_iff_eq, beq_iff_eq, ← UInt8.toNat_inj]; rfl
    have e2 : (c.toNat == 49) = (c == 49) := by
      rw [Bool.eq_iff_iff, beq_iff_eq, beq_iff_eq, ← UInt8.toNat_inj]; rfl
    rw [e1, e2]; rfl
  simp only [Option.map_some, e]

theorem renL_const : ∀ vs : List Value, (∀ v ∈ vs, scal v = true) → RenL (vs.map fun v => fun _ : Nat => v)
  | [], _ => .nil
  | v :: vs, h => .cons (Ren.scal (h v (by simp))) (renL_const vs fun x hx => h x (by simp [hx]))

theorem setE : (evK Tryd.prog evH 1000 orcN 10 (.func 69) [S [48, 49]] []).map Prod.fst = some (.tuple #[.agg asV.toArray, .bool true]) := by kernel_rfl

theorem ren_agg (vs : List Value) (h : ∀ v ∈ vs, scal v = true) (hc : ∀ v ∈ vs, isCell v = true) : Ren fun _ => .agg vs.toArray := by
  have := Ren.agg (renL_const vs h) (fun j V hV => by
    obtain ⟨v, hv, rfl⟩ := List.mem_map.1 hV
    exact hc v hv)
  simpa [List.map_map, Function.comp_def] using this

theorem C69 {h : Heap} {K : Value → Heap → Prop} (hk : K (.tuple #[.agg asV.toArray, .bool true]) h) : CallP Tryd.prog 69 [S [48, 49]] h K := by
  obtain ⟨h', hc⟩ := evK_call evH 1000 10 orcN_sound setE
  have hs : ∀ v ∈ asV, scal v = true ∧ isCell v = true := by
    intro v hv
    obtain ⟨i, _, rfl⟩ := List.mem_map.1 hv
    exact ⟨rfl, rfl⟩
  exact callP_any (Ren.tuple (l := [fun _ => .agg asV.toArray, fun _ => .bool true]) (.cons (ren_agg _ (fun v hv => (hs v hv).1) fun v hv => (hs v hv).2) (.cons (Ren.scal rfl) .nil))) hc rfl hk

theorem C87 {i : Nat} {c : UInt8} {h : Heap} {K : Value → Heap → Prop} (hg : h[i]? = some (.arr 98 asV)) (hk : K (B (isBit c)) h) : CallP Tryd.prog 87 [pt i 0, cv c] h K := by
  refine f87 ?_
  have hlt := c.toNat_lt
  have a1 : iNilck (pt i 0) = some (pt i 0) := rfl
  have a2 : iAdrArr 256 1 (pt i 0) (cv c) = some (pt i c.toNat) := by
    have : (0 : Int) ≤ (c.toNat : Int) ∧ (c.toNat : Int) < 256 := by omega
    simp [iAdrArr, this]
  have a3 : iLoad false 1 h (pt i c.toNat) = some (B (isBit c)) := by simp [iLoad, objCells, hg, iPart, asV_get]
  simp only [T87, a1, a2, a3, OP_some]
  exact hk

def trimR (s : List UInt8) : List UInt8 := (s.reverse.dropWhile isBit).reverse

theorem trimR_snoc (s : List UInt8) (c : UInt8) : trimR (s ++ [c]) = if isBit c then trimR s else s ++ [c] := by
  simp only [trimR, List.reverse_append, List.reverse_cons, List.reverse_nil, List.nil_append, List.singleton_append, List.dropWhile_cons]
  split
  · rfl
  · simp

theorem C71 {i : Nat} {s0 : List UInt8} {h : Heap} {K : Value → Heap → Prop} (hl : s0.length < 4611686018427387904) (hg : h[i]? = some (.arr 98 asV)) (hk : K (S (trimR s0)) h) : CallP Tryd.prog 71 [S s0, pt i 0] h K := by
  refine f71 ?_
  unfold T71
  refine loopL (σ := List UInt8) (fun s => [S s]) (fun _ => h) (fun s => trimR s = trimR s0 ∧ s.length ≤ s0.length) (fun s => s.length) s0 rfl rfl ⟨rfl, Nat.le_refl _⟩ ?_
  rintro s ⟨hs, hsl⟩ L hL
  rw [q71z4]
  simp only [lenS_S, OP_some, bin_gtr, IfP_dec]
  refine ⟨fun hpos => ?_, fun hz => ?_⟩
  · obtain ⟨t, c, rfl⟩ : ∃ t c, s = t ++ [c] := ⟨s.dropLast, s.getLast (by rintro rfl; simp at hpos), (List.dropLast_concat_getLast _).symm⟩
    rw [List.length_append, List.length_singleton] at hsl
    have w : IntKind.wrap .i64 (((t ++ [c]).length : Int) - 1) = (t.length : Int) := by
      rw [List.length_append, List.length_singleton, wrap64 (by omega) (by omega)]; omega
    have ix : iIdxS (S (t ++ [c])) (I t.length) = some (cv c) := by
      have := idxS_S (a := t ++ [c]) (i := t.length) (by simp) .i64
      simpa using this
    have sx : iSlS (S (t ++ [c])) none (some (I t.length)) = some (S t) := by
      have := slS_hi (a := t ++ [c]) (n := t.length) (by simp) .i64
      simpa using this
    simp only [bin_sub, w, OP_some, ix]
    refine C87 hg ?_
    simp only [un_not, OP_some]
    rw [trimR_snoc] at hs
    cases hb : isBit c with
    | true =>
      rw [hb] at hs
      simp only [if_true] at hs
      simp only [Bool.not_true, IfP_false, lenS_S, bin_sub, w, OP_some, sx, true_and]
      exact hL t ⟨hs, by omega⟩ (by simp)
    | false =>
      rw [hb] at hs
      simp only [Bool.false_eq_true, if_false] at hs
      simp only [Bool.not_false, IfP_true]
      rw [q71z10, hs]
      exact hk
  · have : s = [] := by
      cases s with
      | nil => rfl
      | cons c s => simp at hz
    subst this
    rw [q71z10]
    have e : trimR s0 = [] := hs.symm
    rw [e] at hk
    exact hk

theorem C70 {i : Nat} {s0 : List UInt8} {h : Heap} {K : Value → Heap → Prop} (hg : h[i]? = some (.arr 98 asV)) (hk : K (S (s0.dropWhile isBit)) h) : CallP Tryd.prog 70 [S s0, pt i 0] h K := by
  refine f70 ?_
  unfold T70
  refine loopL (σ := List UInt8) (fun s => [S s]) (fun _ => h) (fun s => s.dropWhile isBit = s0.dropWhile isBit) (fun s => s.length) s0 rfl rfl rfl ?_
  intro s hs L hL
  rw [q70z4]
  simp only [lenS_S, OP_some, bin_gtr, IfP_dec]
  refine ⟨fun hpos => ?_, fun hz => ?_⟩
  · cases s with
    | nil => simp at hpos
    | cons c t =>
      have ix : iIdxS (S (c :: t)) (.int .i64 (0)) = some (cv c) := by
        have := idxS_S (a := c :: t) (i := 0) (by simp) .i64
        simpa using this
      have sx : iSlS (S (c :: t)) (some (.int .i64 (1))) none = some (S t) := by
        have := slS_lo (a := c :: t) (n := 1) (by simp) .i64
        simpa using this
      simp only [ix, OP_some]
      refine C87 hg ?_
      simp only [un_not, OP_some]
      cases hb : isBit c with
      | true =>
        simp only [Bool.not_true, IfP_false, sx, OP_some, true_and]
        refine hL t ?_ (by simp)
        rw [List.dropWhile_cons, if_pos hb] at hs
        exact hs
      | false =>
        simp only [Bool.not_false, IfP_true]
        rw [List.dropWhile_cons, if_neg (by rw [hb]; simp)] at hs
        rw [q70z10, hs]
        exact hk
  · have : s = [] := by
      cases s with
      | nil => rfl
      | cons c s => simp at hz
    subst this
    rw [q70z10]
    rw [← hs] at hk
    exact hk

theorem trim_nil {s : List UInt8} : (trimR s).dropWhile isBit = [] ↔ bitsB s = true := by
  have dw : ∀ l : List UInt8, l.dropWhile isBit = [] ↔ l.all isBit = true := by
    intro l
    induction l with
    | nil => simp
    | cons c l ih =>
      rw [List.dropWhile_cons]
      cases hb : isBit c <;> simp [hb, ih]
  have mem : ∀ l : List UInt8, (∀ c ∈ l.dropWhile isBit, isBit c = true) → l.dropWhile isBit = [] := by
    intro l h
    induction l with
    | nil => rfl
    | cons c l ih =>
      rw [List.dropWhile_cons] at h ⊢
      split
      · rename_i hb; rw [if_pos hb] at h; exact ih h
      · rename_i hb; rw [if_neg hb] at h; exact absurd (h c (by simp)) hb
  rw [dw, List.all_eq_true]
  unfold trimR bitsB
  constructor
  · intro h
    have : s.reverse.dropWhile isBit = [] := mem _ fun c hc => h c (by simpa using hc)
    rw [dw] at this
    simpa using this
  · intro h c hc
    have : s.reverse.dropWhile isBit = [] := (dw _).2 (by simpa using h)
    rw [this] at hc
    simp at hc

theorem iAlloc_eq (e : TypeId) (zs : List Value) (h : Heap) : iAlloc e zs h = some (pt h.length 0, h ++ [.arr e zs]) := rfl

theorem store_all {g : Heap} {i : Nat} {e : TypeId} {zs vs : List Value} (hg : g[i]? = some (.arr e zs)) (h1 : zs.length = 256) (h2 : vs.length = 256) : oStore 256 g (pt i 0) (.agg vs.toArray) = some (undef, g.set i (.arr e vs)) := by
  have hv : vcells (.agg vs.toArray) = vs := by simp [vcells, Value.cells]
  have : setAt zs 0 vs = vs := by simp [setAt, h1, h2]
  simp only [oStore, iStore, hg, hv, this]
  rw [if_pos ⟨rfl, h2, by omega⟩]
  rfl

/-- Whether a text has the two letters alone. -/
theorem C51 {s : List UInt8} {h : Heap} {K : Value → Heap → Prop} (hl : s.length < 4611686018427387904) (hk : ∀ h', EX h h' → K (B (bitsB s)) h') : CallP Tryd.prog 51 [S s] h K := by
  refine f51 (f58 ?_)
  have e1 : ∀ s : List UInt8, iBin .eql (S s) (.string ⟨#[]⟩) = some (B (decide (s = []))) := fun s => by show iBin .eql (S s) (S []) = _; rw [bin_eqlS]
  have e2 : iBin .eql (.string ⟨#[48, 49]⟩) (.string ⟨#[]⟩) = some (B false) := rfl
  have e3 : iLenS (.string ⟨#[48, 49]⟩) = some (I 2) := rfl
  simp only [T58, e1, OP_some]
  rw [q58z5]
  by_cases hs : s = []
  · subst hs
    simp only [decide_true, GdP_tf, q58z7, iPick_t, OP_some, IfP_true, e1]
    exact hk h (EX.refl _)
  simp only [decide_eq_false hs, GdP_ff, e2, OP_some]
  rw [q58z7]
  simp only [iPick_f, OP_some, IfP_false, e3, bin_eql, decide_eq_false (show ¬ (2 : Int) = 1 by decide)]
  rw [q58z12]
  simp only [GdP_ft]
  rw [q58z14]
  have x0 : ∀ zs, EX h ((h ++ [IObj.arr 98 zs]).set h.length (.arr 98 asV)) := fun zs => (EX.append _ _).set (Nat.le_refl _) _
  have k0 : ∀ zs, ((h ++ [IObj.arr 98 zs]).set h.length (.arr 98 asV))[h.length]? = some (.arr 98 asV) := fun zs => List.getElem?_set_self (by simp)
  have x1 : iExt 0 (.tuple #[.agg asV.toArray, .bool true]) = some (.agg asV.toArray) := rfl
  have x2 : iExt 1 (.tuple #[.agg asV.toArray, .bool true]) = some (.bool true) := rfl
  refine OP_of (iPick_f _ _) (IfP_false.2 (C69 (OP_of x1 (OP_of x2 (OH_of (iAlloc_eq _ _ _) (OH_of (store_all get_last (by kernel_rfl) asV_len) (IfP_true.2 ?_)))))))
  have this : decide ((trimR s).dropWhile isBit = []) = bitsB s := by
    rw [Bool.eq_iff_iff, decide_eq_true_eq, trim_nil]
  rw [← this] at hk
  exact C71 hl (k0 _) (C70 (k0 _) (OP_of (e1 _) (hk _ (x0 _))))

end Go.Proofs.YthplaillblmgfaaDoor


namespace Go.Proofs.YthplaillblmgfaaDoor
open Go.Sim

theorem C53 {s p : List UInt8} {h : Heap} {K : Value → Heap → Prop} (hk : K (B (decide (p <+: s))) h) : CallP Tryd.prog 53 [S s, S p] h K := by
  refine f53 ?_
  unfold T53
  simp only [lenS_S, OP_some, bin_geq]
  rw [q53z4]
  by_cases hl : p.length ≤ s.length
  · rw [decide_eq_true (show (p.length : Int) ≤ s.length by omega)]
    simp only [GdP_tt, lenS_S, OP_some, slS_hi (a := s) hl .i64, bin_eqlS]
    rw [q53z6]
    simp only [iPick_t, OP_some]
    have : decide (s.take p.length = p) = decide (p <+: s) := decide_eq_decide.2 (by rw [List.prefix_iff_eq_take]; exact eq_comm)
    rw [this]
    exact hk
  · rw [decide_eq_false (show ¬ (p.length : Int) ≤ s.length by omega)]
    simp only [GdP_ft, OP_some]
    rw [q53z6]
    simp only [iPick_f, OP_some]
    have : decide (p <+: s) = false := decide_eq_false fun h => hl h.length_le
    rw [this] at hk
    exact hk

theorem C37 {s p : List UInt8} {h : Heap} {K : Value → Heap → Prop} (hk : K (B (decide (p <+: s))) h) : CallP Tryd.prog 37 [S s, S p] h K :=
  f37 (C53 hk)

/-- The number that a text of two letters is, a 1 ahead. -/
def rk (t : List UInt8) : Nat := t.foldl (fun n c => 2 * n + (if c = 49 then 1 else 0)) 1

theorem revInd {α : Type} {P : List α → Prop} (h0 : P []) (h1 : ∀ t c, P t → P (t ++ [c])) (l : List α) : P l := by
  have : ∀ n (l : List α), l.length = n → P l := by
    intro n
    induction n with
    | zero => intro l hl; rw [List.length_eq_zero_iff.1 hl]; exact h0
    | succ n ih =>
      intro l hl
      have hn : l ≠ [] := by rintro rfl; simp at hl
      rw [← List.dropLast_concat_getLast hn]
      exact h1 _ _ (ih _ (by rw [List.length_dropLast]; omega))
  exact this _ l rfl

theorem rk_snoc (t : List UInt8) (c : UInt8) : rk (t ++ [c]) = 2 * rk t + (if c = 49 then 1 else 0) := by simp [rk, List.foldl_append]

theorem rk_app_le {a b : List UInt8} (h : rk a ≤ rk b) (r : List UInt8) : rk (a ++ r) ≤ rk (b ++ r) := by
  refine revInd (P := fun r => rk (a ++ r) ≤ rk (b ++ r)) (by simpa using h) (fun r c ih => ?_) r
  rw [← List.append_assoc, ← List.append_assoc, rk_snoc, rk_snoc]; split <;> omega

theorem rk_bounds (t : List UInt8) : 2 ^ t.length ≤ rk t ∧ rk t < 2 ^ (t.length + 1) := by
  refine revInd (P := fun t => 2 ^ t.length ≤ rk t ∧ rk t < 2 ^ (t.length + 1)) (by simp [rk]) (fun t c ih => ?_) t
  rw [rk_snoc, List.length_append, List.length_singleton, Nat.pow_succ, Nat.pow_succ 2 (t.length + 1)]
  split <;> omega

theorem rk_len {a b : List UInt8} (h : rk a ≤ rk b) : a.length ≤ b.length := by
  have h1 := (rk_bounds a).1
  have h2 := (rk_bounds b).2
  have : 2 ^ a.length < 2 ^ (b.length + 1) := by omega
  have := (Nat.pow_lt_pow_iff_right (by omega)).1 this
  omega

theorem isBit_or {c : UInt8} (h : isBit c = true) : c = 48 ∨ c = 49 := by
  simpa [isBit] using h

theorem rk_inj {a : List UInt8} : ∀ {b : List UInt8}, bitsB a = true → bitsB b = true → rk a = rk b → a = b := by
  refine revInd (P := fun a => ∀ {b : List UInt8}, bitsB a = true → bitsB b = true → rk a = rk b → a = b) ?_ (fun a c ih => ?_) a
  · intro b _ _ h
    have := rk_len (Nat.le_of_eq h.symm)
    have : b = [] := by simpa using this
    exact this.symm
  · intro b ha hb h
    have hl := rk_len (Nat.le_of_eq h)
    have : b ≠ [] := by rintro rfl; simp at hl
    obtain ⟨b, d, rfl⟩ : ∃ t c, b = t ++ [c] := ⟨b.dropLast, b.getLast this, (List.dropLast_concat_getLast _).symm⟩
    rw [rk_snoc, rk_snoc] at h
    simp only [bitsB, List.all_append, List.all_cons, List.all_nil, Bool.and_true, Bool.and_eq_true] at ha hb
    have e1 : rk a = rk b := by split at h <;> split at h <;> omega
    have e2 : c = d := by
      rcases isBit_or ha.2 with rfl | rfl <;> rcases isBit_or hb.2 with rfl | rfl <;> simp_all
    rw [ih (by exact ha.1) (by exact hb.1) e1, e2]

/-- Of two texts of one length the first in byte order is the less number. -/
def vl (n : Nat) (t : List UInt8) : Nat := t.foldl (fun n c => 2 * n + (if c = 49 then 1 else 0)) n

theorem vl_bounds : ∀ (t : List UInt8) (n : Nat), n * 2 ^ t.length ≤ vl n t ∧ vl n t < (n + 1) * 2 ^ t.length
  | [], n => by simp [vl]
  | c :: t, n => by
    have e1 : ∀ w : Nat, n * (w * 2) = (2 * n) * w := fun w => by rw [Nat.mul_comm w 2, ← Nat.mul_assoc, Nat.mul_comm n 2]
    have e2 : ∀ w : Nat, (n + 1) * (w * 2) = (2 * n + 2) * w := fun w => by rw [Nat.mul_comm w 2, ← Nat.mul_assoc, Nat.mul_comm _ 2, Nat.mul_add]
    rw [List.length_cons, Nat.pow_succ, e1, e2]
    have hv : vl n (c :: t) = vl (2 * n + (if c = 49 then 1 else 0)) t := rfl
    rw [hv]
    by_cases hc : c = 49
    · rw [if_pos hc]
      have := vl_bounds t (2 * n + 1)
      exact ⟨Nat.le_trans (Nat.mul_le_mul_right _ (by omega)) this.1, this.2⟩
    · rw [if_neg hc]
      have := vl_bounds t (2 * n + 0)
      exact ⟨this.1, Nat.lt_of_lt_of_le this.2 (Nat.mul_le_mul_right _ (by omega))⟩

theorem vl_lt : ∀ {a b : List UInt8} (n : Nat), a.length = b.length → bitsB a = true → bitsB b = true → (Op.bytesLess a b = decide (vl n a < vl n b))
  | [], [], n, _, _, _ => by simp [Op.bytesLess]
  | c :: a, d :: b, n, hl, ha, hb => by
    simp only [bitsB, List.all_cons, Bool.and_eq_true] at ha hb
    simp only [List.length_cons, Nat.add_right_cancel_iff] at hl
    have ih := vl_lt (2 * n) hl ha.2 hb.2
    have ih1 := vl_lt (2 * n + 1) hl ha.2 hb.2
    have b0 := vl_bounds a (2 * n)
    have b1 := vl_bounds b (2 * n + 1)
    have b2 := vl_bounds b (2 * n)
    have b3 := vl_bounds a (2 * n + 1)
    rw [hl] at b0 b3
    simp only [vl] at *
    rcases isBit_or ha.1 with rfl | rfl <;> rcases isBit_or hb.1 with rfl | rfl <;> simp [Op.bytesLess, vl] <;> first | exact ih | exact ih1 | omega

theorem rk_short {a b : List UInt8} (h : a.length < b.length) : rk a < rk b := by
  have h1 := (rk_bounds a).2
  have h2 := (rk_bounds b).1
  have := Nat.pow_le_pow_right (n := 2) (by omega) (show a.length + 1 ≤ b.length by omega)
  omega

theorem C36 {a b : List UInt8} {h : Heap} {K : Value → Heap → Prop} (ha : bitsB a = true) (hb : bitsB b = true) (la : a.length < 4611686018427387904) (lb : b.length < 4611686018427387904) (hk : K (B (decide (rk a < rk b))) h) : CallP Tryd.prog 36 [S a, S b] h K := by
  refine f36 ?_
  unfold T36
  have w : IntKind.wrap .i64 ((a.length : Int) - b.length) = (a.length : Int) - b.length := wrap64 (by omega) (by omega)
  simp only [lenS_S, OP_some, bin_sub, w, bin_neq]
  by_cases hl : a.length = b.length
  · rw [decide_eq_true (show (a.length : Int) - b.length = 0 by omega)]
    have e : iBin .lss (S a) (S b) = some (B (Op.bytesLess a b)) := by simp [iBin, iStr, S]
    simp only [Bool.not_true, IfP_false, e, OP_some]
    rw [vl_lt 1 hl ha hb]
    exact hk
  · rw [decide_eq_false (show ¬ (a.length : Int) - b.length = 0 by omega)]
    simp only [Bool.not_false, IfP_true, bin_lss, OP_some]
    have : decide ((a.length : Int) - b.length < 0) = decide (rk a < rk b) := by
      refine decide_eq_decide.2 ⟨fun h => rk_short (by omega), fun h => ?_⟩
      have := rk_len (Nat.le_of_lt h)
      omega
    rw [this]
    exact hk

theorem C52 {v : Value} {ls : List (List UInt8)} {w : List UInt8} {h : Heap} {K : Value → Heap → Prop} (hv : SS h v ls) (hl : ls.length < 4611686018427387904) (hk : K (B (decide (w ∈ ls))) h) : CallP Tryd.prog 52 [v, S w] h K := by
  refine f52 (f59 ?_)
  unfold T59
  simp only [hv.len, OP_some]
  refine loopL (σ := Nat) (fun i => [I i]) (fun _ => h) (fun i => i ≤ ls.length ∧ ∀ j (hj : j < ls.length), j < i → ls[j] ≠ w) (fun i => ls.length - i) 0 rfl rfl ⟨Nat.zero_le _, fun j _ hj => absurd hj (by omega)⟩ ?_
  rintro i ⟨hi, hno⟩ L hL
  rw [q59z5]
  simp only [bin_lss, OP_some, IfP_dec]
  refine ⟨fun hlt => ?_, fun hge => ?_⟩
  · have hlt : i < ls.length := by omega
    obtain ⟨b, o, e1, e2⟩ := hv.get i hlt
    simp only [e1, e2, OP_some, bin_eqlS, IfP_dec, bin_geq, bin_add]
    refine ⟨fun he => ?_, fun hne => ⟨trivial, ?_⟩⟩
    · rw [decide_eq_true (show w ∈ ls from he ▸ List.getElem_mem hlt)] at hk
      rw [decide_eq_true (show (0 : Int) ≤ i by omega)]
      exact hk
    · rw [incM i (by simp [maxLen]; omega)]
      refine hL (i + 1) ⟨hlt, fun j hj hji => ?_⟩ (by omega)
      rcases Nat.lt_succ_iff_lt_or_eq.1 hji with h' | h'
      · exact hno j hj h'
      · subst h'; exact fun h => hne h.symm
  · have : w ∉ ls := by
      intro hw
      obtain ⟨j, hj, e⟩ := List.getElem_of_mem hw
      exact hno j hj (by omega) e
    rw [decide_eq_false this] at hk
    simp only [bin_geq, OP_some]
    exact hk

/-- Why texts are no code. -/
def codeOk (ls : List (List UInt8)) : Prop := ls.Nodup ∧ ∀ w ∈ ls, w ≠ [] ∧ w.length ≤ 10 ∧ bitsB w = true
open Classical in
noncomputable def chkE (ls : List (List UInt8)) (s : List UInt8) : Int := if 12 < ls.length ∨ 200 < s.length then 3 else if ls = [] ∨ bitsB s = false then 2 else if codeOk ls then 0 else 2

theorem own_part9 {b : Nat} {g : Heap} {v : Value} {ls : List (List UInt8)} (own : OwnS b g 9 v (ls.map S)) {k : Nat} (hk : k ≤ ls.length) : ∃ u, iSlSl 9 1 v none (some (I k)) = some u ∧ SS g u (ls.take k) := by
  rcases own with ⟨rfl, e⟩ | ⟨i, _, rfl, hg⟩
  · have : ls = [] := by simpa using e
    subst this
    have : k = 0 := by simpa using hk
    subst this
    exact ⟨.slice none 0 0, rfl, ⟨rfl, fun k hk => by simp at hk⟩⟩
  · rw [List.length_map]
    refine ⟨sl 9 i 0 k, slSl_hi hk, ⟨by simp [iLenSl, sl, lenOfSl, Nat.min_eq_left hk], fun j hj => ⟨i, j, ?_, ?_⟩⟩⟩
    · rw [List.length_take] at hj
      exact adr_sl (by omega)
    · rw [List.length_take] at hj
      have : (ls.take k)[j]'(by rw [List.length_take]; exact hj) = ls[j]'(by omega) := List.getElem_take
      rw [this]
      have hj' : j < ls.length := by omega
      simp [iLoad, objCells, hg, iPart, hj']

theorem own_ss {b : Nat} {g : Heap} {v : Value} {ls : List (List UInt8)} (own : OwnS b g 9 v (ls.map S)) : SS g v ls := by
  rcases own with ⟨rfl, e⟩ | ⟨i, _, rfl, hg⟩
  · have : ls = [] := by simpa using e
    subst this
    exact ⟨rfl, fun k hk => by simp at hk⟩
  · rw [List.length_map]
    exact SS.sl (by simp [objCells, hg])

theorem own9 {b : Nat} {g g' : Heap} {v : Value} {xs : List Value} (x : EX g g') (o : OwnS b g 9 v xs) : OwnS b g' 9 v xs := o.keep fun d _ hv _ => x.2 d (o.lt hv).2.1

theorem C34 {b : Nat} {v : Value} {ls : List (List UInt8)} {s : List UInt8} {h : Heap} {K : Value → Heap → Prop} (hv : OwnS b h 9 v (ls.map S)) (hl : ls.length < 1000000) (hw : ∀ w ∈ ls, w.length < 4611686018427387904) (hs : s.length < 4611686018427387904) (hk : ∀ h', EX h h' → K (I (chkE ls s)) h') : CallP Tryd.prog 34 [v, S s] h K := by
  refine f34 ?_
  unfold T34
  simp only [(own_ss hv).len, OP_some, bin_gtr]
  have e1 : ∀ s : List UInt8, iBin .eql (S s) (.string ⟨#[]⟩) = some (B (decide (s = []))) := fun s => by show iBin .eql (S s) (S []) = _; rw [bin_eqlS]
  rw [q34z6]
  have long : (12 < ls.length ∨ 200 < s.length) → K (I 3) h := fun hc => by
    have := hk h (EX.refl h)
    rwa [chkE, if_pos hc] at this
  by_cases h1 : 12 < ls.length
  · rw [decide_eq_true (show (12 : Int) < ls.length by omega)]
    simp only [GdP_tf, q34z8, iPick_t, OP_some, IfP_true]
    exact long (.inl h1)
  rw [decide_eq_false (show ¬ (12 : Int) < ls.length by omega)]
  simp only [GdP_ff, lenS_S, bin_gtr, OP_some, q34z8, iPick_f]
  by_cases h2 : 200 < s.length
  · rw [decide_eq_true (show (200 : Int) < s.length by omega)]
    simp only [IfP_true]
    exact long (.inr h2)
  rw [decide_eq_false (show ¬ (200 : Int) < s.length by omega)]
  simp only [IfP_false, (own_ss hv).len, OP_some, bin_eql]
  rw [q34z12]
  have bad : ∀ g, EX h g → (ls = [] ∨ bitsB s = false) → K (I 2) g := fun g xg hc => by
    have := hk g xg
    rwa [chkE, if_neg (by omega), if_pos hc] at this
  by_cases h3 : ls = []
  · rw [decide_eq_true (show (ls.length : Int) = 0 by simp [h3])]
    simp only [GdP_tf, q34z14, iPick_t, OP_some, IfP_true]
    exact bad _ (EX.refl h) (.inl h3)
  rw [decide_eq_false (show ¬ (ls.length : Int) = 0 by have := List.length_pos_iff.2 h3; omega)]
  simp only [GdP_ff]
  refine C51 hs ?_
  intro h4 x4
  simp only [un_not, OP_some, q34z14, iPick_f]
  cases hb : bitsB s with
  | false =>
    simp only [Bool.not_false, IfP_true]
    exact bad _ x4 (.inr hb)
  | true =>
    simp only [Bool.not_true, IfP_false, (own_ss hv).len, OP_some]
    have fin0 : ∀ g, EX h g → codeOk ls → K (I 0) g := fun g xg hc => by
      have := hk g xg
      rwa [chkE, if_neg (by omega), if_neg (by simp [h3, hb]), if_pos hc] at this
    have fin2 : ∀ g, EX h g → ¬ codeOk ls → K (I 2) g := fun g xg hc => by
      have := hk g xg
      rwa [chkE, if_neg (by omega), if_neg (by simp [h3, hb]), if_neg hc] at this
    refine loopL (σ := Nat × Heap) (fun q => [I q.1]) (fun q => q.2) (fun q => q.1 ≤ ls.length ∧ EX h q.2 ∧ ∀ j (hj : j < ls.length), j < q.1 → (ls[j] ≠ [] ∧ ls[j].length ≤ 10 ∧ bitsB ls[j] = true) ∧ ls[j] ∉ ls.take j) (fun q => ls.length - q.1) (0, h4) rfl rfl ⟨Nat.zero_le _, x4, fun j _ hj => absurd hj (Nat.not_lt_zero _)⟩ ?_
    rintro ⟨i, g⟩ ⟨hi, xg, hok⟩ L hL
    simp only at hi xg hok hL ⊢
    rw [q34z19]
    simp only [bin_lss, OP_some, IfP_dec]
    refine ⟨fun hlt => ?_, fun hge => ?_⟩
    · have hlt : i < ls.length := by omega
      obtain ⟨b, o, a1, a2⟩ := ((own_ss hv).mono xg).get i hlt
      have mem : ls[i] ∈ ls := List.getElem_mem hlt
      have hwl := hw _ mem
      simp only [a1, a2, OP_some, e1]
      rw [q34z27]
      by_cases w1 : ls[i] = []
      · simp only [decide_eq_true w1, GdP_tf, q34z29, q34z31, q34z33, q34z35, q34z37, iPick_t, OP_some, IfP_true]
        exact fin2 _ xg fun hc => (hc.2 _ mem).1 w1
      simp only [decide_eq_false w1, GdP_ff, lenS_S, bin_gtr, OP_some, q34z29, iPick_f]
      rw [q34z31]
      by_cases w2 : 10 < ls[i].length
      · rw [decide_eq_true (show (10 : Int) < ls[i].length by omega)]
        simp only [GdP_tf, q34z33, q34z35, q34z37, iPick_t, OP_some, IfP_true]
        exact fin2 _ xg fun hc => by have := (hc.2 _ mem).2.1; omega
      rw [decide_eq_false (show ¬ (10 : Int) < ls[i].length by omega)]
      simp only [GdP_ff]
      refine C51 hwl ?_
      intro g2 x2
      simp only [un_not, OP_some, q34z33, iPick_f]
      rw [q34z35]
      cases w3 : bitsB ls[i] with
      | false =>
        simp only [Bool.not_false, GdP_tf, q34z37, iPick_t, OP_some, IfP_true]
        exact fin2 _ (xg.trans x2) fun hc => by rw [(hc.2 _ mem).2.2] at w3; simp at w3
      | true =>
        obtain ⟨u, s1, s2⟩ := own_part9 (own9 (xg.trans x2) hv) (Nat.le_of_lt hlt)
        simp only [Bool.not_true, GdP_ff, s1, OP_some]
        refine C52 s2 (by rw [List.length_take]; omega) ?_
        rw [q34z37]
        simp only [iPick_f, OP_some, IfP_dec, bin_add]
        refine ⟨fun hin => fin2 _ (xg.trans x2) fun hc => ?_, fun hni => ⟨trivial, ?_⟩⟩
        · obtain ⟨j, hj, e⟩ := List.getElem_of_mem hin
          rw [List.length_take] at hj
          rw [List.getElem_take] at e
          exact (List.pairwise_iff_getElem.1 hc.1) j i (by omega) hlt (by omega) e
        · rw [incM i (by simp [maxLen]; omega)]
          refine hL (i + 1, g2) ⟨hlt, xg.trans x2, fun j hj hji => ?_⟩ (by show ls.length - (i + 1) < ls.length - i; omega)
          have hji : j < i + 1 := hji
          rcases Nat.lt_succ_iff_lt_or_eq.1 hji with h' | h'
          · exact hok j hj h'
          · subst h'; exact ⟨⟨w1, by omega, w3⟩, hni⟩
    · refine fin0 _ xg ⟨List.pairwise_iff_getElem.2 fun a b ha hb hab e => ?_, fun w hw => ?_⟩
      · exact (hok b hb (by omega)).2 (e ▸ List.mem_take_iff_getElem.2 ⟨a, by omega, rfl⟩)
      · obtain ⟨j, hj, rfl⟩ := List.getElem_of_mem hw
        exact (hok j hj (by omega)).1

end Go.Proofs.YthplaillblmgfaaDoor


namespace Go.Proofs.YthplaillblmgfaaDoor
open Go.Sim

abbrev Tx := List UInt8

def posK (k : Tx) : List (Tx × Tx) → Option Nat
  | [] => none
  | p :: l => if k = p.1 then some 0 else (posK k l).map (· + 1)

def look (k : Tx) : List (Tx × Tx) → Option Tx
  | [] => none
  | p :: l => if k = p.1 then some p.2 else look k l

def put (k t : Tx) (l : List (Tx × Tx)) : List (Tx × Tx) := match posK k l with | some j => l.set j (k, t) | none => l ++ [(k, t)]

theorem posG_zip (k : Tx) : ∀ (l : List (Tx × Tx)) (n : Nat), posG (S k) ((l.zipIdx n).map fun p => (p.2, S p.1.1, S p.1.2)) = posK k l
  | [], _ => rfl
  | p :: l, n => by
    have e : gkEq (S k) (S p.1) = decide (k = p.1) := by simp [gkEq, S]
    rw [List.zipIdx_cons, List.map_cons, posG, posK, posG_zip k l (n + 1), e]
    simp only [decide_eq_true_eq]

theorem posK_look (k : Tx) : ∀ l : List (Tx × Tx), ((posK k l).bind fun j => l[j]?).map Prod.snd = look k l
  | [] => rfl
  | p :: l => by
    rw [posK, look]
    split
    · rfl
    · rw [← posK_look k l]
      cases posK k l <;> simp

theorem posK_none {k : Tx} : ∀ {l : List (Tx × Tx)}, posK k l = none ↔ look k l = none
  | [] => by simp [posK, look]
  | p :: l => by
    rw [posK, look]
    split
    · simp
    · rw [Option.map_eq_none_iff]; exact posK_none

theorem posK_get {k : Tx} : ∀ {l : List (Tx × Tx)} {j : Nat}, posK k l = some j → ∃ t, l[j]? = some (k, t)
  | p :: l, j, h => by
    rw [posK] at h
    split at h
    · rename_i he
      cases h
      exact ⟨p.2, by rw [he]; rfl⟩
    · obtain ⟨j', h1, rfl⟩ := Option.map_eq_some_iff.1 h
      obtain ⟨t, h2⟩ := posK_get h1
      exact ⟨t, by simpa using h2⟩

theorem tmap_get (l : List (Tx × Tx)) (j : Nat) : (tmap l)[j]? = (l[j]?).map fun p => (j, S p.1, S p.2) := by
  simp [tmap, List.getElem?_zipIdx, Option.map_map, Function.comp_def]

theorem findG_tmap (k : Tx) (l : List (Tx × Tx)) : findG (S k) (tmap l) = (look k l).map S := by
  have h1 : posG (S k) (tmap l) = posK k l := posG_zip k l 0
  unfold findG
  rw [h1, ← posK_look]
  cases posK k l with
  | none => rfl
  | some j =>
    simp only [Option.bind_some, tmap_get, Option.map_map]
    cases l[j]? <;> rfl

theorem setG_tmap (k t : Tx) (l : List (Tx × Tx)) : setG l.length (S k) (S t) (tmap l) = tmap (put k t l) := by
  have h1 : posG (S k) (tmap l) = posK k l := posG_zip k l 0
  unfold setG put
  rw [h1]
  cases hp : posK k l with
  | none =>
    simp only [tmap, List.zipIdx_append, List.map_append]
    simp
  | some j =>
    apply List.ext_getElem?
    intro i
    rw [tmap_get, List.getElem?_modify, tmap_get, List.getElem?_set]
    by_cases hij : j = i
    · subst hij
      obtain ⟨t', ht⟩ := posK_get hp
      have := (List.getElem?_eq_some_iff.1 ht).1
      simp [ht, this]
    · simp [hij]

theorem clkG_tmap (k t : Tx) (l : List (Tx × Tx)) : clkG l.length (S k) (tmap l) = (put k t l).length := by
  have h1 : posG (S k) (tmap l) = posK k l := posG_zip k l 0
  unfold clkG put
  rw [h1]
  cases posK k l <;> simp

theorem look_put (k t : Tx) : ∀ l : List (Tx × Tx), ∀ a, look a (put k t l) = if a = k then some t else look a l
  | [], a => by
    simp only [put, posK, List.nil_append, look]
  | p :: l, a => by
    have ih := look_put k t l a
    unfold put at ih ⊢
    rw [posK]
    by_cases hk : k = p.1
    · simp only [if_pos hk, List.set_cons_zero, look]
      by_cases ha : a = k
      · rw [if_pos ha, if_pos ha]
      · rw [if_neg ha, if_neg ha, if_neg (hk ▸ ha)]
    · rw [if_neg hk]
      cases hp : posK k l with
      | none =>
        rw [hp] at ih
        simp only [Option.map_none, List.cons_append, look] at ih ⊢
        rw [ih]
        by_cases ha : a = k
        · subst ha; simp [hk]
        · simp [ha]
      | some j =>
        rw [hp] at ih
        simp only [Option.map_some, List.set_cons_succ, look] at ih ⊢
        rw [ih]
        by_cases ha : a = k
        · subst ha; simp [hk]
        · simp [ha]

theorem keys_put {k t : Tx} {l : List (Tx × Tx)} : (put k t l).map Prod.fst = if look k l = none then l.map Prod.fst ++ [k] else l.map Prod.fst := by
  unfold put
  cases hp : posK k l with
  | none => rw [if_pos (posK_none.1 hp)]; simp
  | some j =>
    rw [if_neg fun h => by rw [posK_none.2 h] at hp; cases hp]
    obtain ⟨t', ht⟩ := posK_get hp
    obtain ⟨hj, e⟩ := List.getElem?_eq_some_iff.1 ht
    apply List.ext_getElem?
    intro i
    simp only [List.getElem?_map, List.getElem?_set]
    by_cases hij : j = i
    · subst hij; simp [hj, e]
    · simp [hij]

theorem look_mem {k t : Tx} : ∀ {l : List (Tx × Tx)}, look k l = some t → (k, t) ∈ l
  | p :: l, h => by
    rw [look] at h
    split at h
    · rename_i he
      cases h
      rw [he]; exact List.mem_cons_self
    · exact List.mem_cons_of_mem _ (look_mem h)

theorem mem_look {k : Tx} : ∀ {l : List (Tx × Tx)}, k ∈ l.map Prod.fst → ∃ t, look k l = some t
  | p :: l, h => by
    rw [look]
    by_cases he : k = p.1
    · exact ⟨_, if_pos he⟩
    · rw [if_neg he]
      rw [List.map_cons, List.mem_cons] at h
      exact mem_look (h.resolve_left he)

/-- Whether a text comes in, and the map then. -/
def bet (k t : Tx) (l : List (Tx × Tx)) : Bool := match look k l with | some o => decide (rk t < rk o) | none => true

theorem C35 {ic im : Nat} {l : List (Tx × Tx)} {k t : Tx} {g : Heap} {K : Value → Heap → Prop} (hc : g[ic]? = some (.arr 60 [.map (some im)])) (hm : g[im]? = some (.gmap .str l.length (tmap l)))
    (ht : bitsB t = true ∧ t.length < 4611686018427387904) (ho : ∀ o, look k l = some o → bitsB o = true ∧ o.length < 4611686018427387904)
    (hf : bet k t l = false → K (B false) g) (hk : bet k t l = true → K (B true) (g.set im (.gmap .str (put k t l).length (tmap (put k t l))))) : CallP Tryd.prog 35 [S k, S t, pt ic 0] g K := by
  refine f35 ?_
  unfold T35
  have e1 : iLoad false 1 g (pt ic 0) = some (.map (some im)) := by simp [iLoad, objCells, hc, iPart]
  have gk : ∀ s : Tx, gkIs .str (S s) = true := fun _ => rfl
  have e2 : iLookupG .str true (.string ⟨#[]⟩) g (.map (some im)) (S k) = some (.tuple #[((look k l).map S).getD (S []), B (look k l).isSome]) := by
    simp only [iLookupG, hm, gk, findG_tmap]
    cases look k l <;> rfl
  have upd : iMupdG .str g (.map (some im)) (S k) (S t) = some (g.set im (.gmap .str (put k t l).length (tmap (put k t l)))) := by
    simp only [iMupdG, hm, gk, setG_tmap, clkG_tmap k t]
    rfl
  simp only [e1, OP_some, e2, ext_tuple, pair0, pair1]
  rw [q35z6]
  cases hl : look k l with
  | none =>
    simp only [Option.isSome_none, GdP_ft, q35z8, iPick_f, OP_some, IfP_false, e1, oMupdG, upd, Option.map_some, OH_some]
    exact hk (by simp [bet, hl])
  | some o =>
    simp only [Option.isSome_some, GdP_tt, Option.map_some, Option.getD_some]
    refine C36 ht.1 (ho o hl).1 ht.2 (ho o hl).2 ?_
    have hb : bet k t l = decide (rk t < rk o) := by simp [bet, hl]
    simp only [un_not, OP_some, q35z8, iPick_t]
    rw [← hb]
    cases h : bet k t l with
    | false =>
      simp only [Bool.not_false, IfP_true]
      exact hf h
    | true =>
      simp only [Bool.not_true, IfP_false, e1, OP_some, oMupdG, upd, Option.map_some, OH_some]
      exact hk h

end Go.Proofs.YthplaillblmgfaaDoor


namespace Go.Proofs.YthplaillblmgfaaDoor
open Go.Sim

/-- A text that two readings share, one of them ahead by `a`. -/
inductive Rc (W : List Tx) : Tx → Tx → Prop
  | init {v w : Tx} : v ∈ W → w ∈ W → v ≠ w → v <+: w → Rc W (w.drop v.length) w
  | fwd {a t w : Tx} : Rc W a t → a ≠ [] → w ∈ W → a <+: w → Rc W (w.drop a.length) (t ++ w.drop a.length)
  | bwd {a t w : Tx} : Rc W a t → a ≠ [] → w ∈ W → w <+: a → Rc W (a.drop w.length) t

def sufs (W : List Tx) : List Tx := W.flatMap fun w => (List.range 11).map fun i => w.drop i

theorem sufs_len (W : List Tx) : (sufs W).length = 11 * W.length := by
  induction W with
  | nil => rfl
  | cons w W ih =>
    have : sufs (w :: W) = ((List.range 11).map fun i => w.drop i) ++ sufs W := by simp [sufs]
    rw [this, List.length_append, ih]
    simp; omega

theorem sufs_drop {W : List Tx} {w : Tx} (hw : w ∈ W) (hl : w.length ≤ 10) (n : Nat) : w.drop n ∈ sufs W := by
  rw [sufs, List.mem_flatMap]
  refine ⟨w, hw, List.mem_map.2 ⟨min n 10, List.mem_range.2 (by omega), ?_⟩⟩
  by_cases h : n ≤ 10
  · rw [Nat.min_eq_left h]
  · rw [Nat.min_eq_right (by omega), List.drop_eq_nil_of_le hl, List.drop_eq_nil_of_le (by omega)]

structure Ok (W : List Tx) : Prop where
  nd : W.Nodup
  ne : ∀ w ∈ W, w ≠ []
  le : ∀ w ∈ W, w.length ≤ 10
  bt : ∀ w ∈ W, bitsB w = true
  few : W.length ≤ 12

theorem bits_drop {w : Tx} (h : bitsB w = true) (n : Nat) : bitsB (w.drop n) = true := by
  simp only [bitsB, List.all_eq_true] at h ⊢
  exact fun x hx => h x (List.mem_of_mem_drop hx)
theorem bits_app {a b : Tx} (h : bitsB a = true) (k : bitsB b = true) : bitsB (a ++ b) = true := by
  simp only [bitsB, List.all_append, Bool.and_eq_true] at *
  exact ⟨h, k⟩

theorem Rc.key {W : List Tx} (ok : Ok W) {a t : Tx} (r : Rc W a t) : (∃ w ∈ W, ∃ n, a = w.drop n) ∧ bitsB t = true := by
  induction r with
  | init hv hw _ _ => exact ⟨⟨_, hw, _, rfl⟩, ok.bt _ hw⟩
  | fwd _ _ hw _ ih => exact ⟨⟨_, hw, _, rfl⟩, bits_app ih.2 (bits_drop (ok.bt _ hw) _)⟩
  | bwd _ _ hw _ ih =>
    obtain ⟨⟨w, h1, n, rfl⟩, h2⟩ := ih
    exact ⟨⟨w, h1, n + _, List.drop_drop ..⟩, h2⟩

theorem Rc.suf {W : List Tx} (ok : Ok W) {a t : Tx} (r : Rc W a t) : a ∈ sufs W := by
  obtain ⟨⟨w, hw, n, rfl⟩, _⟩ := r.key ok
  exact sufs_drop hw (ok.le _ hw) n

structure Good (W : List Tx) (l : List (Tx × Tx)) : Prop where
  nd : (l.map Prod.fst).Nodup
  rc : ∀ k t, look k l = some t → Rc W k t
  ln : ∀ k t, look k l = some t → t.length ≤ 10 * l.length

theorem nodup_leT : ∀ {l m : List Tx}, l.Nodup → (∀ a ∈ l, a ∈ m) → l.length ≤ m.length
  | [], _, _, _ => Nat.zero_le _
  | a :: l, m, hn, hm => by
    rw [List.nodup_cons] at hn
    have ha := hm a List.mem_cons_self
    have := nodup_leT (l := l) (m := m.erase a) hn.2 fun b hb => by
      refine (List.mem_erase_of_ne ?_).2 (hm b (List.mem_cons_of_mem _ hb))
      rintro rfl
      exact hn.1 hb
    rw [List.length_erase_of_mem ha] at this
    have := List.length_pos_of_mem ha
    rw [List.length_cons]; omega

theorem Good.few {W : List Tx} (ok : Ok W) {l : List (Tx × Tx)} (g : Good W l) : l.length ≤ 132 := by
  have h := nodup_leT g.nd (m := sufs W) fun k hk => by
    obtain ⟨t, ht⟩ := mem_look hk
    exact (g.rc k t ht).suf ok
  rw [List.length_map, sufs_len] at h
  have := ok.few
  omega

theorem Good.nil (W : List Tx) : Good W [] := ⟨List.nodup_nil, fun _ _ h => by simp [look] at h, fun _ _ h => by simp [look] at h⟩

theorem put_len {k t : Tx} {l : List (Tx × Tx)} : (put k t l).length = if look k l = none then l.length + 1 else l.length := by
  have := congrArg List.length (keys_put (k := k) (t := t) (l := l))
  rw [List.length_map] at this
  rw [this]
  split <;> simp

theorem good_put {W : List Tx} {k t : Tx} {l : List (Tx × Tx)} (g : Good W l) (r : Rc W k t) (hl : t.length ≤ 10 * l.length + 10) (hb : bet k t l = true) : Good W (put k t l) := by
  refine ⟨?_, fun a u h => ?_, fun a u h => ?_⟩
  · rw [keys_put]
    split
    · rename_i hn
      refine List.nodup_append.2 ⟨g.nd, by simp, fun a ha b hb' e => ?_⟩
      obtain ⟨u, hu⟩ := mem_look ha
      rw [List.mem_singleton.1 hb'] at e
      rw [e, hn] at hu
      cases hu
    · exact g.nd
  · rw [look_put] at h
    split at h
    · rename_i e
      cases h
      exact e ▸ r
    · exact g.rc a u h
  · rw [look_put] at h
    rw [put_len]
    split at h
    · cases h
      split
      · omega
      · rename_i hn
        cases ho : look k l with
        | none => exact absurd ho hn
        | some o =>
          simp only [bet, ho, decide_eq_true_eq] at hb
          have := rk_len (Nat.le_of_lt hb)
          have := g.ln k o ho
          omega
    · have := g.ln a u h
      split <;> omega

def Dn (l l' : List (Tx × Tx)) : Prop := ∀ k t, look k l = some t → ∃ t', look k l' = some t' ∧ rk t' ≤ rk t
theorem Dn.refl (l : List (Tx × Tx)) : Dn l l := fun _ t h => ⟨t, h, Nat.le_refl _⟩
theorem Dn.trans {a b c : List (Tx × Tx)} (x : Dn a b) (y : Dn b c) : Dn a c := fun k t h => by
  obtain ⟨t1, h1, e1⟩ := x k t h
  obtain ⟨t2, h2, e2⟩ := y k t1 h1
  exact ⟨t2, h2, Nat.le_trans e2 e1⟩
theorem Dn.put {k t : Tx} {l : List (Tx × Tx)} (hb : bet k t l = true) : Dn l (put k t l) := fun a u h => by
  rw [look_put]
  by_cases e : a = k
  · rw [if_pos e]
    subst e
    simp only [bet, h, decide_eq_true_eq] at hb
    exact ⟨t, rfl, Nat.le_of_lt hb⟩
  · rw [if_neg e]
    exact ⟨u, h, Nat.le_refl _⟩

def expo : Nat := 1400
def wt (l : List (Tx × Tx)) (k : Tx) : Nat := match look k l with | some t => rk t | none => 2 ^ expo
def mu (W : List Tx) (l : List (Tx × Tx)) : Nat := ((sufs W).map (wt l)).sum

theorem sum_lt {f g : Tx → Nat} : ∀ {m : List Tx}, (∀ k ∈ m, f k ≤ g k) → (∃ k ∈ m, f k < g k) → (m.map f).sum < (m.map g).sum
  | [], _, ⟨k, hk, _⟩ => by simp at hk
  | x :: m, h, ⟨k, hk, hlt⟩ => by
    have hx := h x List.mem_cons_self
    have hle : (m.map f).sum ≤ (m.map g).sum := by
      have : ∀ m : List Tx, (∀ k ∈ m, f k ≤ g k) → (m.map f).sum ≤ (m.map g).sum := by
        intro m
        induction m with
        | nil => intro _; exact Nat.le_refl _
        | cons y m ih =>
          intro h
          have := h y List.mem_cons_self
          have := ih fun k hk => h k (List.mem_cons_of_mem _ hk)
          simp only [List.map_cons, List.sum_cons]; omega
      exact this m fun k hk => h k (List.mem_cons_of_mem _ hk)
    simp only [List.map_cons, List.sum_cons]
    rcases List.mem_cons.1 hk with rfl | hk
    · omega
    · have := sum_lt (m := m) (fun k hk => h k (List.mem_cons_of_mem _ hk)) ⟨k, hk, hlt⟩
      omega

theorem mu_put {W : List Tx} (ok : Ok W) {k t : Tx} {l : List (Tx × Tx)} (g : Good W l) (r : Rc W k t) (hl : t.length ≤ 10 * l.length + 10) (hb : bet k t l = true) : mu W (put k t l) < mu W l := by
  have hf := g.few ok
  have big : rk t < 2 ^ expo := Nat.lt_of_lt_of_le (rk_bounds t).2 (Nat.pow_le_pow_right (by omega) (by show t.length + 1 ≤ 1400; omega))
  have key : wt (put k t l) k < wt l k := by
    unfold wt
    rw [look_put, if_pos rfl]
    cases ho : look k l with
    | none => exact big
    | some o => simpa [bet, ho] using hb
  refine sum_lt (fun a _ => ?_) ⟨k, r.suf ok, key⟩
  by_cases e : a = k
  · rw [e]; exact Nat.le_of_lt key
  · unfold wt; rw [look_put, if_neg e]; exact Nat.le_refl _

/-- What a pass has looked at brings nothing new. -/
def Clo (l : List (Tx × Tx)) (a w : Tx) : Prop := a ≠ [] → ∀ t, look a l = some t →
  (a <+: w → ∃ t', look (w.drop a.length) l = some t' ∧ rk t' ≤ rk (t ++ w.drop a.length)) ∧ (¬ a <+: w → w <+: a → ∃ t', look (a.drop w.length) l = some t' ∧ rk t' ≤ rk t)

def Ini (W : List Tx) (l : List (Tx × Tx)) : Prop := ∀ v ∈ W, ∀ w ∈ W, v ≠ w → v <+: w → ∃ t', look (w.drop v.length) l = some t' ∧ rk t' ≤ rk w
theorem Ini.dn {W : List Tx} {l l' : List (Tx × Tx)} (i : Ini W l) (d : Dn l l') : Ini W l' := fun v hv w hw h1 h2 => by
  obtain ⟨t, e1, e2⟩ := i v hv w hw h1 h2
  obtain ⟨t', f1, f2⟩ := d _ _ e1
  exact ⟨t', f1, Nat.le_trans f2 e2⟩

theorem least {W : List Tx} {l : List (Tx × Tx)} (hi : Ini W l) (hc : ∀ a t, look a l = some t → ∀ w ∈ W, Clo l a w) {a t : Tx} (r : Rc W a t) : ∃ t', look a l = some t' ∧ rk t' ≤ rk t := by
  induction r with
  | init hv hw h1 h2 => exact hi _ hv _ hw h1 h2
  | fwd _ hn hw hp ih =>
    obtain ⟨t', e1, e2⟩ := ih
    obtain ⟨u, f1, f2⟩ := (hc _ _ e1 _ hw hn _ e1).1 hp
    exact ⟨u, f1, Nat.le_trans f2 (rk_app_le e2 _)⟩
  | @bwd a t w _ hn hw hp ih =>
    obtain ⟨t', e1, e2⟩ := ih
    by_cases hq : a <+: w
    · have : a = w := hq.eq_of_length (Nat.le_antisymm hq.length_le hp.length_le)
      subst this
      obtain ⟨u, f1, f2⟩ := (hc _ _ e1 _ hw hn _ e1).1 hq
      rw [List.drop_length] at f1 f2 ⊢
      rw [List.append_nil] at f2
      exact ⟨u, f1, Nat.le_trans f2 e2⟩
    · obtain ⟨u, f1, f2⟩ := (hc _ _ e1 _ hw hn _ e1).2 hq hp
      exact ⟨u, f1, Nat.le_trans f2 e2⟩

end Go.Proofs.YthplaillblmgfaaDoor


namespace Go.Proofs.YthplaillblmgfaaDoor
open Go.Sim
variable (P : Program) (K : VK)
/-! F18: pommel/mark.Clear -/
noncomputable def c18z29 : ICode := .ops none [⟨(some 47), .p (.pick (.tmp 43) (.tmp 46) (.const (.bool false)))⟩]
noncomputable def c18z27 : ICode := .seq (.ops (some (43, true)) [⟨(some 44), .p (.mv (.tmp 10))⟩,
 ⟨(some 45), .p (.mv (.tmp 8))⟩,
 ⟨(some 46), .call 37 [(.tmp 44), (.tmp 45)]⟩])
 (.cut [0, 5, 6, 7, 8, 10, 26, 27, 28, 33, 34, 35, 43, 46] c18z29)
noncomputable def c18z25 : ICode := .cond (.tmp 47) (.ops none [⟨(some 48), .p (.mv (.tmp 6))⟩,
 ⟨(some 49), .p (.mv (.tmp 10))⟩,
 ⟨(some 50), .p (.mv (.tmp 8))⟩,
 ⟨(some 51), .p (.lenS (.tmp 50))⟩,
 ⟨(some 52), .p (.slS (.tmp 49) (some (.tmp 51)) none)⟩,
 ⟨(some 53), .p (.mv (.tmp 10))⟩,
 ⟨(some 54), .callv (.tmp 48) [(.tmp 52), (.tmp 53)]⟩])
 (.skip)
noncomputable def c18z30 : ICode := .ops none [⟨(some 55), .p (.bin .add (.tmp 35) (.const (.int .i64 (1))))⟩,
 ⟨(some 35), .p (.mv (.tmp 55))⟩]
noncomputable def c18z22 : ICode := .cut [0, 5, 6, 7, 8, 26, 27, 28, 33, 34, 35] c18z30
noncomputable def c18z19 : ICode := .seq (.ops none [⟨(some 36), .p (.bin .lss (.tmp 35) (.tmp 34))⟩])
 (.seq (.cond (.tmp 36) (.skip)
 (.exit 2))
 (.seq (.block 3 (.seq (.ops none [⟨(some 37), .p (.mv (.tmp 35))⟩,
 ⟨(some 38), .p (.adrSl 1 (.tmp 33) (.tmp 35))⟩,
 ⟨(some 39), .l (.load false 1 (.tmp 38))⟩,
 ⟨(some 9), .p (.mv (.tmp 37))⟩,
 ⟨(some 10), .p (.mv (.tmp 39))⟩])
 (.seq (.seq (.ops none [⟨(some 40), .p (.mv (.tmp 7))⟩,
 ⟨(some 41), .p (.mv (.tmp 9))⟩,
 ⟨(some 42), .p (.bin .neq (.tmp 40) (.tmp 41))⟩,
 ⟨(some 43), .p (.mv (.tmp 42))⟩])
 (.cut [0, 5, 6, 7, 8, 10, 26, 27, 28, 33, 34, 35, 43] c18z27)) c18z25))) c18z22))
noncomputable def c18z31 : ICode := .ops none [⟨(some 56), .p (.bin .add (.tmp 28) (.const (.int .i64 (1))))⟩,
 ⟨(some 28), .p (.mv (.tmp 56))⟩]
noncomputable def c18z14 : ICode := .cut [0, 5, 6, 26, 27, 28] c18z31
noncomputable def c18z11 : ICode := .seq (.ops none [⟨(some 29), .p (.bin .lss (.tmp 28) (.tmp 27))⟩])
 (.seq (.cond (.tmp 29) (.skip)
 (.exit 0))
 (.seq (.block 1 (.seq (.ops none [⟨(some 30), .p (.mv (.tmp 28))⟩,
 ⟨(some 31), .p (.adrSl 1 (.tmp 26) (.tmp 28))⟩,
 ⟨(some 32), .l (.load false 1 (.tmp 31))⟩,
 ⟨(some 7), .p (.mv (.tmp 30))⟩,
 ⟨(some 8), .p (.mv (.tmp 32))⟩])
 (.seq (.ops none [⟨(some 33), .p (.mv (.tmp 0))⟩,
 ⟨(some 34), .p (.lenSl (.tmp 33))⟩,
 ⟨(some 35), .p (.mv (.const (.int .i64 (0))))⟩])
 (.block 2 (.loop [0, 5, 6, 7, 8, 26, 27, 28, 33, 34] [35] c18z19))))) c18z14))
noncomputable def c18z64 : ICode := .ops none [⟨(some 93), .p (.pick (.tmp 91) (.const (.bool true)) (.tmp 92))⟩,
 ⟨(some 11), .p (.mv (.tmp 93))⟩]
noncomputable def c18z62 : ICode := .seq (.ops (some (91, false)) [⟨(some 92), .p (.mv (.tmp 11))⟩])
 (.cut [0, 5, 6, 13, 59, 60, 61, 65, 66, 67, 91, 92] c18z64)
noncomputable def c18z66 : ICode := .ops none [⟨(some 110), .p (.bin .add (.tmp 67) (.const (.int .i64 (1))))⟩,
 ⟨(some 67), .p (.mv (.tmp 110))⟩]
noncomputable def c18z54 : ICode := .cut [0, 5, 6, 11, 13, 59, 60, 61, 65, 66, 67] c18z66
noncomputable def c18z51 : ICode := .seq (.ops none [⟨(some 68), .p (.bin .lss (.tmp 67) (.tmp 66))⟩])
 (.seq (.cond (.tmp 68) (.skip)
 (.exit 8))
 (.seq (.block 9 (.seq (.ops none [⟨(some 69), .p (.adrSl 1 (.tmp 65) (.tmp 67))⟩,
 ⟨(some 70), .l (.load false 1 (.tmp 69))⟩,
 ⟨(some 15), .p (.mv (.tmp 70))⟩])
 (.block 10 (.seq (.ops none [⟨(some 72), .p (.mv (.tmp 13))⟩,
 ⟨(some 73), .p (.bin .eql (.tmp 72) (.const (.string ⟨#[]⟩)))⟩,
 ⟨(some 71), .p (.mv (.tmp 73))⟩])
 (.cond (.tmp 71) (.skip)
 (.seq (.ops none [⟨(some 75), .p (.mv (.tmp 15))⟩,
 ⟨(some 76), .p (.mv (.tmp 13))⟩,
 ⟨(some 77), .call 37 [(.tmp 75), (.tmp 76)]⟩,
 ⟨(some 74), .p (.mv (.tmp 77))⟩])
 (.cond (.tmp 74) (.seq (.ops none [⟨(some 78), .p (.mv (.tmp 15))⟩,
 ⟨(some 79), .p (.mv (.tmp 13))⟩,
 ⟨(some 80), .p (.lenS (.tmp 79))⟩,
 ⟨(some 81), .p (.slS (.tmp 78) (some (.tmp 80)) none)⟩,
 ⟨(some 16), .p (.mv (.tmp 81))⟩])
 (.seq (.ops none [⟨(some 82), .p (.mv (.tmp 6))⟩,
 ⟨(some 83), .p (.mv (.tmp 16))⟩,
 ⟨(some 84), .l (.load false 1 (.tmp 5))⟩,
 ⟨(some 85), .p (.mv (.tmp 13))⟩,
 ⟨(some 86), .l (.lookupG .str false (.string ⟨#[]⟩) (.tmp 84) (.tmp 85))⟩,
 ⟨(some 87), .p (.mv (.tmp 16))⟩,
 ⟨(some 88), .e (.mkSl 9 2 [(.string ⟨#[]⟩)] [(0, 1, (.tmp 86)), (1, 1, (.tmp 87))])⟩,
 ⟨(some 89), .call 39 [(.tmp 88)]⟩,
 ⟨(some 90), .callv (.tmp 82) [(.tmp 83), (.tmp 89)]⟩,
 ⟨(some 91), .p (.mv (.tmp 90))⟩])
 (.cut [0, 5, 6, 11, 13, 59, 60, 61, 65, 66, 67, 91] c18z62)))
 (.seq (.ops none [⟨(some 95), .p (.mv (.tmp 13))⟩,
 ⟨(some 96), .p (.mv (.tmp 15))⟩,
 ⟨(some 97), .call 37 [(.tmp 95), (.tmp 96)]⟩,
 ⟨(some 94), .p (.mv (.tmp 97))⟩])
 (.cond (.tmp 94) (.dops [(none, [⟨(some 98), .p (.mv (.tmp 6)), 0⟩,
 ⟨(some 99), .p (.mv (.tmp 13)), 0⟩,
 ⟨(some 100), .p (.mv (.tmp 15)), 0⟩,
 ⟨(some 101), .p (.lenS (.tmp 100)), 4⟩,
 ⟨(some 102), .p (.slS (.tmp 99) (some (.tmp 101)) none), 14⟩,
 ⟨(some 103), .l (.load false 1 (.tmp 5)), 0⟩,
 ⟨(some 104), .p (.mv (.tmp 13)), 0⟩,
 ⟨(some 105), .l (.lookupG .str false (.string ⟨#[]⟩) (.tmp 103) (.tmp 104)), 96⟩,
 ⟨(some 106), .callv (.tmp 98) [(.tmp 102), (.tmp 105)], 255⟩,
 ⟨(some 107), .p (.mv (.tmp 106)), 511⟩]),
 ((some (107, false)), [⟨(some 108), .p (.mv (.tmp 11)), 1023⟩]),
 (none, [⟨(some 109), .p (.pick (.tmp 107) (.const (.bool true)) (.tmp 108)), 2047⟩,
 ⟨(some 11), .p (.mv (.tmp 109)), 4095⟩])])
 (.skip)))))))))) c18z54))
noncomputable def c18z67 : ICode := .ops none [⟨(some 111), .p (.bin .add (.tmp 61) (.const (.int .i64 (1))))⟩,
 ⟨(some 61), .p (.mv (.tmp 111))⟩]
noncomputable def c18z46 : ICode := .cut [0, 5, 6, 11, 59, 60, 61] c18z67
noncomputable def c18z43 : ICode := .seq (.ops none [⟨(some 62), .p (.bin .lss (.tmp 61) (.tmp 60))⟩])
 (.seq (.cond (.tmp 62) (.skip)
 (.exit 6))
 (.seq (.block 7 (.seq (.ops none [⟨(some 63), .p (.adrSl 1 (.tmp 59) (.tmp 61))⟩,
 ⟨(some 64), .l (.load false 1 (.tmp 63))⟩,
 ⟨(some 13), .p (.mv (.tmp 64))⟩])
 (.seq (.ops none [⟨(some 65), .p (.mv (.tmp 0))⟩,
 ⟨(some 66), .p (.lenSl (.tmp 65))⟩,
 ⟨(some 67), .p (.mv (.const (.int .i64 (0))))⟩])
 (.block 8 (.loop [0, 5, 6, 13, 59, 60, 61, 65, 66] [11, 67] c18z51))))) c18z46))
noncomputable def c18z36 : ICode := .seq (.seq (.ops none [⟨(some 57), .p (.mv (.tmp 11))⟩])
 (.cond (.tmp 57) (.skip)
 (.exit 4)))
 (.block 5 (.seq (.ops none [⟨(some 11), .p (.mv (.const (.bool false)))⟩])
 (.seq (.ops none [⟨(some 58), .l (.load false 1 (.tmp 5))⟩,
 ⟨(some 59), .call 38 [(.tmp 58)]⟩,
 ⟨(some 60), .p (.lenSl (.tmp 59))⟩,
 ⟨(some 61), .p (.mv (.const (.int .i64 (0))))⟩])
 (.block 6 (.loop [0, 5, 6, 59, 60] [11, 61] c18z43)))))
noncomputable def c18z68 : ICode := .seq (.ops none [⟨(some 113), .l (.load false 1 (.tmp 5))⟩,
 ⟨(some 114), .l (.lookupG .str true (.string ⟨#[]⟩) (.tmp 113) (.const (.string ⟨#[]⟩)))⟩,
 ⟨(some 112), .p (.mv (.tmp 114))⟩,
 ⟨(some 115), .p (.ext (.tmp 112) 0)⟩,
 ⟨(some 116), .p (.ext (.tmp 112) 1)⟩,
 ⟨(some 17), .p (.mv (.tmp 115))⟩,
 ⟨(some 18), .p (.mv (.tmp 116))⟩])
 (.seq (.seq (.ops none [⟨(some 117), .p (.mv (.tmp 18))⟩,
 ⟨(some 118), .p (.un .not (.tmp 117))⟩])
 (.cond (.tmp 118) (.seq (.ops none [⟨(some 2), .p (.mv (.const (.string ⟨#[]⟩)))⟩,
 ⟨(some 3), .p (.mv (.const (.int .i64 (5))))⟩])
 (.ret))
 (.skip)))
 (.seq (.ops none [⟨(some 119), .p (.mv (.tmp 17))⟩,
 ⟨(some 2), .p (.mv (.tmp 119))⟩,
 ⟨(some 3), .p (.mv (.const (.int .i64 (0))))⟩])
 (.ret)))
noncomputable def c18z33 : ICode := .cut [5] c18z68
noncomputable def c18z32 : ICode := .seq (.seq (.ops none [⟨(some 11), .p (.mv (.const (.bool true)))⟩])
 (.block 4 (.loop [0, 5, 6] [11] c18z36))) c18z33
noncomputable def c18z8 : ICode := .cut [0, 5, 6] c18z32
noncomputable def c18 : ICode := .seq (.ops none [⟨(some 2), .p (.mv (.const (.string ⟨#[]⟩)))⟩,
 ⟨(some 3), .p (.mv (.const (.int .i64 (0))))⟩])
 (.seq (.seq (.ops none [⟨(some 19), .p (.mv (.tmp 0))⟩,
 ⟨(some 20), .call 34 [(.tmp 19), (.const (.string ⟨#[]⟩))]⟩,
 ⟨(some 4), .p (.mv (.tmp 20))⟩])
 (.seq (.ops none [⟨(some 21), .p (.mv (.tmp 4))⟩,
 ⟨(some 22), .p (.bin .neq (.tmp 21) (.const (.int .i64 (0))))⟩])
 (.cond (.tmp 22) (.seq (.ops none [⟨(some 23), .p (.mv (.tmp 4))⟩,
 ⟨(some 2), .p (.mv (.const (.string ⟨#[]⟩)))⟩,
 ⟨(some 3), .p (.mv (.tmp 23))⟩])
 (.ret))
 (.skip))))
 (.seq (.ops none [⟨(some 24), .e (.mkMapG .str)⟩,
 ⟨(some 5), .e (.alloc 60 [(.map none)])⟩,
 ⟨none, .e (.store 1 (.tmp 5) (.tmp 24))⟩])
 (.seq (.ops none [⟨(some 25), .p (.fn 35 [] [(.tmp 5)])⟩,
 ⟨(some 6), .p (.mv (.tmp 25))⟩])
 (.seq (.seq (.ops none [⟨(some 26), .p (.mv (.tmp 0))⟩,
 ⟨(some 27), .p (.lenSl (.tmp 26))⟩,
 ⟨(some 28), .p (.mv (.const (.int .i64 (0))))⟩])
 (.block 0 (.loop [0, 5, 6, 26, 27] [28] c18z11))) c18z8))))
theorem k18 : compFn Tryd.prog 18 [[], [], [], [], [], [], [], [], [0, 5, 6, 26, 27], [28], [], [], [], [], [0, 5, 6, 7, 8, 26, 27, 28, 33, 34], [35], [], [], [], [0, 5, 6, 7, 8, 10, 26, 27, 28, 33, 34, 35, 43], [0, 5, 6, 7, 8, 10, 26, 27, 28, 33, 34, 35, 43, 46], [], [0, 5, 6, 7, 8, 26, 27, 28, 33, 34, 35], [0, 5, 6, 26, 27, 28], [0, 5, 6], [], [0, 5, 6], [11], [], [], [], [], [0, 5, 6, 59, 60], [11, 61], [], [], [], [], [0, 5, 6, 13, 59, 60, 61, 65, 66], [11, 67], [], [], [], [], [], [], [0, 5, 6, 11, 13, 59, 60, 61, 65, 66, 67, 91], [0, 5, 6, 13, 59, 60, 61, 65, 66, 67, 91, 92], [], [0, 5, 6, 11, 13, 59, 60, 61, 65, 66, 67], [0, 5, 6, 11, 59, 60, 61], [5], [], [], [], [], []] = some (120, c18, [.tmp 2, .tmp 3]) := by kernel_rfl
def K18z0 (_P : Program) (K : VK) : Kont := bodyP [.tmp 2, .tmp 3] K
def K18z8 : Kont := thenK (iwpP P c18z8 (K18z0 P K)) (K18z0 P K)
def K18z10 : Kont := inBlockK 0 (K18z8 P K)
def K18z11 (words0 texts5 reach6 x26 x27 : Value) (L1 : LK) : Kont := thenK (fun f' h'' => (([0, 5, 6, 26, 27] : List Nat).map f' : List Value) = [words0, texts5, reach6, x26, x27] ∧ L1 (([28] : List Nat).map f') h'') (K18z10 P K)
def K18z14 (words0 texts5 reach6 x26 x27 : Value) (L1 : LK) : Kont := thenK (iwpP P c18z14 (K18z11 P K words0 texts5 reach6 x26 x27 L1)) (K18z11 P K words0 texts5 reach6 x26 x27 L1)
def K18z15 (words0 texts5 reach6 x26 x27 : Value) (L1 : LK) : Kont := inBlockK 1 (K18z14 P K words0 texts5 reach6 x26 x27 L1)
def K18z18 (words0 texts5 reach6 x26 x27 : Value) (L1 : LK) : Kont := inBlockK 2 (K18z15 P K words0 texts5 reach6 x26 x27 L1)
def K18z19 (words0 texts5 reach6 i7 v8 x26 x27 x28 x33 x34 : Value) (L1 L2 : LK) : Kont := thenK (fun f' h'' => (([0, 5, 6, 7, 8, 26, 27, 28, 33, 34] : List Nat).map f' : List Value) = [words0, texts5, reach6, i7, v8, x26, x27, x28, x33, x34] ∧ L2 (([35] : List Nat).map f') h'') (K18z18 P K words0 texts5 reach6 x26 x27 L1)
def K18z22 (words0 texts5 reach6 i7 v8 x26 x27 x28 x33 x34 : Value) (L1 L2 : LK) : Kont := thenK (iwpP P c18z22 (K18z19 P K words0 texts5 reach6 i7 v8 x26 x27 x28 x33 x34 L1 L2)) (K18z19 P K words0 texts5 reach6 i7 v8 x26 x27 x28 x33 x34 L1 L2)
def K18z23 (words0 texts5 reach6 i7 v8 x26 x27 x28 x33 x34 : Value) (L1 L2 : LK) : Kont := inBlockK 3 (K18z22 P K words0 texts5 reach6 i7 v8 x26 x27 x28 x33 x34 L1 L2)
def K18z25 (words0 texts5 reach6 i7 v8 x26 x27 x28 x33 x34 : Value) (L1 L2 : LK) : Kont := thenK (iwpP P c18z25 (K18z23 P K words0 texts5 reach6 i7 v8 x26 x27 x28 x33 x34 L1 L2)) (K18z23 P K words0 texts5 reach6 i7 v8 x26 x27 x28 x33 x34 L1 L2)
def K18z33 : Kont := thenK (iwpP P c18z33 (K18z0 P K)) (K18z0 P K)
def K18z35 : Kont := inBlockK 4 (K18z33 P K)
def K18z36 (words0 texts5 reach6 : Value) (L1 : LK) : Kont := thenK (fun f' h'' => (([0, 5, 6] : List Nat).map f' : List Value) = [words0, texts5, reach6] ∧ L1 (([11] : List Nat).map f') h'') (K18z35 P K)
def K18z39 (words0 texts5 reach6 : Value) (L1 : LK) : Kont := inBlockK 5 (K18z36 P K words0 texts5 reach6 L1)
def K18z42 (words0 texts5 reach6 : Value) (L1 : LK) : Kont := inBlockK 6 (K18z39 P K words0 texts5 reach6 L1)
def K18z43 (words0 texts5 reach6 x59 x60 : Value) (L1 L2 : LK) : Kont := thenK (fun f' h'' => (([0, 5, 6, 59, 60] : List Nat).map f' : List Value) = [words0, texts5, reach6, x59, x60] ∧ L2 (([11, 61] : List Nat).map f') h'') (K18z42 P K words0 texts5 reach6 L1)
def K18z46 (words0 texts5 reach6 x59 x60 : Value) (L1 L2 : LK) : Kont := thenK (iwpP P c18z46 (K18z43 P K words0 texts5 reach6 x59 x60 L1 L2)) (K18z43 P K words0 texts5 reach6 x59 x60 L1 L2)
def K18z47 (words0 texts5 reach6 x59 x60 : Value) (L1 L2 : LK) : Kont := inBlockK 7 (K18z46 P K words0 texts5 reach6 x59 x60 L1 L2)
def K18z50 (words0 texts5 reach6 x59 x60 : Value) (L1 L2 : LK) : Kont := inBlockK 8 (K18z47 P K words0 texts5 reach6 x59 x60 L1 L2)
def K18z51 (words0 texts5 reach6 ahead13 x59 x60 x61 x65 x66 : Value) (L1 L2 L3 : LK) : Kont := thenK (fun f' h'' => (([0, 5, 6, 13, 59, 60, 61, 65, 66] : List Nat).map f' : List Value) = [words0, texts5, reach6, ahead13, x59, x60, x61, x65, x66] ∧ L3 (([11, 67] : List Nat).map f') h'') (K18z50 P K words0 texts5 reach6 x59 x60 L1 L2)
def K18z54 (words0 texts5 reach6 ahead13 x59 x60 x61 x65 x66 : Value) (L1 L2 L3 : LK) : Kont := thenK (iwpP P c18z54 (K18z51 P K words0 texts5 reach6 ahead13 x59 x60 x61 x65 x66 L1 L2 L3)) (K18z51 P K words0 texts5 reach6 ahead13 x59 x60 x61 x65 x66 L1 L2 L3)
def K18z55 (words0 texts5 reach6 ahead13 x59 x60 x61 x65 x66 : Value) (L1 L2 L3 : LK) : Kont := inBlockK 9 (K18z54 P K words0 texts5 reach6 ahead13 x59 x60 x61 x65 x66 L1 L2 L3)
def K18z57 (words0 texts5 reach6 ahead13 x59 x60 x61 x65 x66 : Value) (L1 L2 L3 : LK) : Kont := inBlockK 10 (K18z55 P K words0 texts5 reach6 ahead13 x59 x60 x61 x65 x66 L1 L2 L3)
def p18z11 (words0 texts5 reach6 x26 x27 : Value) (L1 : LK) (xs : List Value) (h : Heap) : Prop := CutP (iwpP P c18z11 (K18z11 P K words0 texts5 reach6 x26 x27 L1)) ([0, 5, 6, 26, 27] ++ [28]) ([words0, texts5, reach6, x26, x27] ++ xs) h
def p18z19 (words0 texts5 reach6 i7 v8 x26 x27 x28 x33 x34 : Value) (L1 L2 : LK) (xs : List Value) (h : Heap) : Prop := CutP (iwpP P c18z19 (K18z19 P K words0 texts5 reach6 i7 v8 x26 x27 x28 x33 x34 L1 L2)) ([0, 5, 6, 7, 8, 26, 27, 28, 33, 34] ++ [35]) ([words0, texts5, reach6, i7, v8, x26, x27, x28, x33, x34] ++ xs) h
def p18z27 (words0 texts5 reach6 i7 v8 w10 x26 x27 x28 x33 x34 x35 x43 : Value) (L1 L2 : LK) (h : Heap) : Prop := CutP (iwpP P c18z27 (K18z25 P K words0 texts5 reach6 i7 v8 x26 x27 x28 x33 x34 L1 L2)) [0, 5, 6, 7, 8, 10, 26, 27, 28, 33, 34, 35, 43] [words0, texts5, reach6, i7, v8, w10, x26, x27, x28, x33, x34, x35, x43] h
def p18z29 (words0 texts5 reach6 i7 v8 w10 x26 x27 x28 x33 x34 x35 x43 x46 : Value) (L1 L2 : LK) (h : Heap) : Prop := CutP (iwpP P c18z29 (K18z25 P K words0 texts5 reach6 i7 v8 x26 x27 x28 x33 x34 L1 L2)) [0, 5, 6, 7, 8, 10, 26, 27, 28, 33, 34, 35, 43, 46] [words0, texts5, reach6, i7, v8, w10, x26, x27, x28, x33, x34, x35, x43, x46] h
def p18z30 (words0 texts5 reach6 i7 v8 x26 x27 x28 x33 x34 x35 : Value) (L1 L2 : LK) (h : Heap) : Prop := CutP (iwpP P c18z30 (K18z19 P K words0 texts5 reach6 i7 v8 x26 x27 x28 x33 x34 L1 L2)) [0, 5, 6, 7, 8, 26, 27, 28, 33, 34, 35] [words0, texts5, reach6, i7, v8, x26, x27, x28, x33, x34, x35] h
def p18z31 (words0 texts5 reach6 x26 x27 x28 : Value) (L1 : LK) (h : Heap) : Prop := CutP (iwpP P c18z31 (K18z11 P K words0 texts5 reach6 x26 x27 L1)) [0, 5, 6, 26, 27, 28] [words0, texts5, reach6, x26, x27, x28] h
def p18z32 (words0 texts5 reach6 : Value) (h : Heap) : Prop := CutP (iwpP P c18z32 (K18z0 P K)) [0, 5, 6] [words0, texts5, reach6] h
def p18z36 (words0 texts5 reach6 : Value) (L1 : LK) (xs : List Value) (h : Heap) : Prop := CutP (iwpP P c18z36 (K18z36 P K words0 texts5 reach6 L1)) ([0, 5, 6] ++ [11]) ([words0, texts5, reach6] ++ xs) h
def p18z43 (words0 texts5 reach6 x59 x60 : Value) (L1 L2 : LK) (xs : List Value) (h : Heap) : Prop := CutP (iwpP P c18z43 (K18z43 P K words0 texts5 reach6 x59 x60 L1 L2)) ([0, 5, 6, 59, 60] ++ [11, 61]) ([words0, texts5, reach6, x59, x60] ++ xs) h
def p18z51 (words0 texts5 reach6 ahead13 x59 x60 x61 x65 x66 : Value) (L1 L2 L3 : LK) (xs : List Value) (h : Heap) : Prop := CutP (iwpP P c18z51 (K18z51 P K words0 texts5 reach6 ahead13 x59 x60 x61 x65 x66 L1 L2 L3)) ([0, 5, 6, 13, 59, 60, 61, 65, 66] ++ [11, 67]) ([words0, texts5, reach6, ahead13, x59, x60, x61, x65, x66] ++ xs) h
def p18z62 (words0 texts5 reach6 more11 ahead13 x59 x60 x61 x65 x66 x67 x91 : Value) (L1 L2 L3 : LK) (h : Heap) : Prop := CutP (iwpP P c18z62 (K18z57 P K words0 texts5 reach6 ahead13 x59 x60 x61 x65 x66 L1 L2 L3)) [0, 5, 6, 11, 13, 59, 60, 61, 65, 66, 67, 91] [words0, texts5, reach6, more11, ahead13, x59, x60, x61, x65, x66, x67, x91] h
def p18z64 (words0 texts5 reach6 ahead13 x59 x60 x61 x65 x66 x67 x91 x92 : Value) (L1 L2 L3 : LK) (h : Heap) : Prop := CutP (iwpP P c18z64 (K18z57 P K words0 texts5 reach6 ahead13 x59 x60 x61 x65 x66 L1 L2 L3)) [0, 5, 6, 13, 59, 60, 61, 65, 66, 67, 91, 92] [words0, texts5, reach6, ahead13, x59, x60, x61, x65, x66, x67, x91, x92] h
def p18z66 (words0 texts5 reach6 more11 ahead13 x59 x60 x61 x65 x66 x67 : Value) (L1 L2 L3 : LK) (h : Heap) : Prop := CutP (iwpP P c18z66 (K18z51 P K words0 texts5 reach6 ahead13 x59 x60 x61 x65 x66 L1 L2 L3)) [0, 5, 6, 11, 13, 59, 60, 61, 65, 66, 67] [words0, texts5, reach6, more11, ahead13, x59, x60, x61, x65, x66, x67] h
def p18z67 (words0 texts5 reach6 more11 x59 x60 x61 : Value) (L1 L2 : LK) (h : Heap) : Prop := CutP (iwpP P c18z67 (K18z43 P K words0 texts5 reach6 x59 x60 L1 L2)) [0, 5, 6, 11, 59, 60, 61] [words0, texts5, reach6, more11, x59, x60, x61] h
def p18z68 (texts5 : Value) (h : Heap) : Prop := CutP (iwpP P c18z68 (K18z0 P K)) [5] [texts5] h
theorem q18z29 (words0 texts5 reach6 i7 v8 w10 x26 x27 x28 x33 x34 x35 x43 x46 : Value) (L1 L2 : LK) (h : Heap) : p18z29 P K words0 texts5 reach6 i7 v8 w10 x26 x27 x28 x33 x34 x35 x43 x46 L1 L2 h =
 (OP (iPick x43 x46 (.bool false)) fun x47 =>
 IfP x47
 (OP (iLenS v8) fun x51 =>
 OP (iSlS w10 (some x51) none) fun x52 =>
 CallVP P reach6 [x52, w10] h fun x54 h_1 =>
 p18z30 P K words0 texts5 reach6 i7 v8 x26 x27 x28 x33 x34 x35 L1 L2 h_1)
 (p18z30 P K words0 texts5 reach6 i7 v8 x26 x27 x28 x33 x34 x35 L1 L2 h)) := (CutP_def _ _ _ _).trans (by kernel_rfl)
theorem q18z27 (words0 texts5 reach6 i7 v8 w10 x26 x27 x28 x33 x34 x35 x43 : Value) (L1 L2 : LK) (h : Heap) : p18z27 P K words0 texts5 reach6 i7 v8 w10 x26 x27 x28 x33 x34 x35 x43 L1 L2 h =
 (GdP x43 true
 (CallP P 37 [w10, v8] h fun x46 h_1 =>
 p18z29 P K words0 texts5 reach6 i7 v8 w10 x26 x27 x28 x33 x34 x35 x43 x46 L1 L2 h_1)
 (p18z29 P K words0 texts5 reach6 i7 v8 w10 x26 x27 x28 x33 x34 x35 x43 undef L1 L2 h)) := (CutP_def _ _ _ _).trans (by kernel_rfl)
theorem q18z30 (words0 texts5 reach6 i7 v8 x26 x27 x28 x33 x34 x35 : Value) (L1 L2 : LK) (h : Heap) : p18z30 P K words0 texts5 reach6 i7 v8 x26 x27 x28 x33 x34 x35 L1 L2 h =
 (OP (iBin .add x35 (.int .i64 (1))) fun x55 =>
 ([words0, texts5, reach6, i7, v8, x26, x27, x28, x33, x34] : List Value) = [words0, texts5, reach6, i7, v8, x26, x27, x28, x33, x34] ∧ L2 [x55] h) := (CutP_def _ _ _ _).trans (by kernel_rfl)
theorem q18z19 (words0 texts5 reach6 i7 v8 x26 x27 x28 x33 x34 : Value) (L1 L2 : LK) (x35 : Value) (h : Heap) : p18z19 P K words0 texts5 reach6 i7 v8 x26 x27 x28 x33 x34 L1 L2 [x35] h =
 (OP (iBin .lss x35 x34) fun x36 =>
 IfP x36
 (OP (iAdrSl 1 x33 x35) fun x38 =>
 OP (iLoad false 1 h x38) fun x39 =>
 OP (iBin .neq i7 x35) fun x42 =>
 p18z27 P K words0 texts5 reach6 i7 v8 x39 x26 x27 x28 x33 x34 x35 x42 L1 L2 h)
 (p18z31 P K words0 texts5 reach6 x26 x27 x28 L1 h)) := (CutP_def _ _ _ _).trans (by kernel_rfl)
theorem q18z31 (words0 texts5 reach6 x26 x27 x28 : Value) (L1 : LK) (h : Heap) : p18z31 P K words0 texts5 reach6 x26 x27 x28 L1 h =
 (OP (iBin .add x28 (.int .i64 (1))) fun x56 =>
 ([words0, texts5, reach6, x26, x27] : List Value) = [words0, texts5, reach6, x26, x27] ∧ L1 [x56] h) := (CutP_def _ _ _ _).trans (by kernel_rfl)
theorem q18z11 (words0 texts5 reach6 x26 x27 : Value) (L1 : LK) (x28 : Value) (h : Heap) : p18z11 P K words0 texts5 reach6 x26 x27 L1 [x28] h =
 (OP (iBin .lss x28 x27) fun x29 =>
 IfP x29
 (OP (iAdrSl 1 x26 x28) fun x31 =>
 OP (iLoad false 1 h x31) fun x32 =>
 OP (iLenSl words0) fun x34 =>
 LoopP [(.int .i64 (0))] h fun L2 xs hx =>
 p18z19 P K words0 texts5 reach6 x28 x32 x26 x27 x28 words0 x34 L1 L2 xs hx)
 (p18z32 P K words0 texts5 reach6 h)) := (CutP_def _ _ _ _).trans (by kernel_rfl)
theorem q18z64 (words0 texts5 reach6 ahead13 x59 x60 x61 x65 x66 x67 x91 x92 : Value) (L1 L2 L3 : LK) (h : Heap) : p18z64 P K words0 texts5 reach6 ahead13 x59 x60 x61 x65 x66 x67 x91 x92 L1 L2 L3 h =
 (OP (iPick x91 (.bool true) x92) fun x93 =>
 p18z66 P K words0 texts5 reach6 x93 ahead13 x59 x60 x61 x65 x66 x67 L1 L2 L3 h) := (CutP_def _ _ _ _).trans (by kernel_rfl)
theorem q18z62 (words0 texts5 reach6 more11 ahead13 x59 x60 x61 x65 x66 x67 x91 : Value) (L1 L2 L3 : LK) (h : Heap) : p18z62 P K words0 texts5 reach6 more11 ahead13 x59 x60 x61 x65 x66 x67 x91 L1 L2 L3 h =
 (GdP x91 false
 (p18z64 P K words0 texts5 reach6 ahead13 x59 x60 x61 x65 x66 x67 x91 more11 L1 L2 L3 h)
 (p18z64 P K words0 texts5 reach6 ahead13 x59 x60 x61 x65 x66 x67 x91 undef L1 L2 L3 h)) := (CutP_def _ _ _ _).trans (by kernel_rfl)
theorem q18z66 (words0 texts5 reach6 more11 ahead13 x59 x60 x61 x65 x66 x67 : Value) (L1 L2 L3 : LK) (h : Heap) : p18z66 P K words0 texts5 reach6 more11 ahead13 x59 x60 x61 x65 x66 x67 L1 L2 L3 h =
 (OP (iBin .add x67 (.int .i64 (1))) fun x110 =>
 ([words0, texts5, reach6, ahead13, x59, x60, x61, x65, x66] : List Value) = [words0, texts5, reach6, ahead13, x59, x60, x61, x65, x66] ∧ L3 [more11, x110] h) := (CutP_def _ _ _ _).trans (by kernel_rfl)
theorem q18z51 (words0 texts5 reach6 ahead13 x59 x60 x61 x65 x66 : Value) (L1 L2 L3 : LK) (more11 x67 : Value) (h : Heap) : p18z51 P K words0 texts5 reach6 ahead13 x59 x60 x61 x65 x66 L1 L2 L3 [more11, x67] h =
 (OP (iBin .lss x67 x66) fun x68 =>
 IfP x68
 (OP (iAdrSl 1 x65 x67) fun x69 =>
 OP (iLoad false 1 h x69) fun x70 =>
 OP (iBin .eql ahead13 (.string ⟨#[]⟩)) fun x73 =>
 IfP x73
 (p18z66 P K words0 texts5 reach6 more11 ahead13 x59 x60 x61 x65 x66 x67 L1 L2 L3 h)
 (CallP P 37 [x70, ahead13] h fun x77 h_1 =>
 IfP x77
 (OP (iLenS ahead13) fun x80 =>
 OP (iSlS x70 (some x80) none) fun x81 =>
 OP (iLoad false 1 h_1 texts5) fun x84 =>
 OP (iLookupG .str false (.string ⟨#[]⟩) h_1 x84 ahead13) fun x86 =>
 OH (iMkSl 9 2 [(.string ⟨#[]⟩)] h_1 [(0, 1, x86), (1, 1, x81)]) fun x88 h_2 =>
 CallP P 39 [x88] h_2 fun x89 h_3 =>
 CallVP P reach6 [x81, x89] h_3 fun x90 h_4 =>
 p18z62 P K words0 texts5 reach6 more11 ahead13 x59 x60 x61 x65 x66 x67 x90 L1 L2 L3 h_4)
 (CallP P 37 [ahead13, x70] h_1 fun x97 h_2 =>
 IfP x97
 (OP (iLenS x70) fun x101 =>
 OP (iSlS ahead13 (some x101) none) fun x102 =>
 OP (iLoad false 1 h_2 texts5) fun x103 =>
 (True) ∧
 OP (iLookupG .str false (.string ⟨#[]⟩) h_2 x103 ahead13) fun x105 =>
 (True) ∧
 CallVP P reach6 [x102, x105] h_2 fun x106 h_3 =>
 (True) ∧
 GdP x106 false
 (OP (iPick x106 (.bool true) more11) fun x109 =>
 p18z66 P K words0 texts5 reach6 x109 ahead13 x59 x60 x61 x65 x66 x67 L1 L2 L3 h_3)
 (OP (iPick x106 (.bool true) undef) fun x109 =>
 p18z66 P K words0 texts5 reach6 x109 ahead13 x59 x60 x61 x65 x66 x67 L1 L2 L3 h_3))
 (p18z66 P K words0 texts5 reach6 more11 ahead13 x59 x60 x61 x65 x66 x67 L1 L2 L3 h_2))))
 (p18z67 P K words0 texts5 reach6 more11 x59 x60 x61 L1 L2 h)) := (CutP_def _ _ _ _).trans (by kernel_rfl)
theorem q18z67 (words0 texts5 reach6 more11 x59 x60 x61 : Value) (L1 L2 : LK) (h : Heap) : p18z67 P K words0 texts5 reach6 more11 x59 x60 x61 L1 L2 h =
 (OP (iBin .add x61 (.int .i64 (1))) fun x111 =>
 ([words0, texts5, reach6, x59, x60] : List Value) = [words0, texts5, reach6, x59, x60] ∧ L2 [more11, x111] h) := (CutP_def _ _ _ _).trans (by kernel_rfl)
theorem q18z43 (words0 texts5 reach6 x59 x60 : Value) (L1 L2 : LK) (more11 x61 : Value) (h : Heap) : p18z43 P K words0 texts5 reach6 x59 x60 L1 L2 [more11, x61] h =
 (OP (iBin .lss x61 x60) fun x62 =>
 IfP x62
 (OP (iAdrSl 1 x59 x61) fun x63 =>
 OP (iLoad false 1 h x63) fun x64 =>
 OP (iLenSl words0) fun x66 =>
 LoopP [more11, (.int .i64 (0))] h fun L3 xs hx =>
 p18z51 P K words0 texts5 reach6 x64 x59 x60 x61 words0 x66 L1 L2 L3 xs hx)
 (([words0, texts5, reach6] : List Value) = [words0, texts5, reach6] ∧ L1 [more11] h)) := (CutP_def _ _ _ _).trans (by kernel_rfl)
theorem q18z36 (words0 texts5 reach6 : Value) (L1 : LK) (more11 : Value) (h : Heap) : p18z36 P K words0 texts5 reach6 L1 [more11] h =
 (IfP more11
 (OP (iLoad false 1 h texts5) fun x58 =>
 CallP P 38 [x58] h fun x59 h_1 =>
 OP (iLenSl x59) fun x60 =>
 LoopP [(.bool false), (.int .i64 (0))] h_1 fun L2 xs hx =>
 p18z43 P K words0 texts5 reach6 x59 x60 L1 L2 xs hx)
 (p18z68 P K texts5 h)) := (CutP_def _ _ _ _).trans (by kernel_rfl)
theorem q18z68 (texts5 : Value) (h : Heap) : p18z68 P K texts5 h =
 (OP (iLoad false 1 h texts5) fun x113 =>
 OP (iLookupG .str true (.string ⟨#[]⟩) h x113 (.string ⟨#[]⟩)) fun x114 =>
 OP (iExt 0 x114) fun x115 =>
 OP (iExt 1 x114) fun x116 =>
 OP (iUn .not x116) fun x118 =>
 IfP x118
 (K (.tuple #[(.string ⟨#[]⟩), (.int .i64 (5))]) h)
 (K (.tuple #[x115, (.int .i64 (0))]) h)) := (CutP_def _ _ _ _).trans (by kernel_rfl)
theorem q18z32 (words0 texts5 reach6 : Value) (h : Heap) : p18z32 P K words0 texts5 reach6 h =
 (LoopP [(.bool true)] h fun L1 xs hx =>
 p18z36 P K words0 texts5 reach6 L1 xs hx) := (CutP_def _ _ _ _).trans (by kernel_rfl)
def T18 (words0 : Value) (h : Heap) : Prop :=
 CallP P 34 [words0, (.string ⟨#[]⟩)] h fun x20 h_1 =>
 OP (iBin .neq x20 (.int .i64 (0))) fun x22 =>
 IfP x22
 (K (.tuple #[(.string ⟨#[]⟩), x20]) h_1)
 (OH (iMkMapG .str h_1) fun x24 h_2 =>
 OH (iAlloc 60 [(.map none)] h_2) fun texts5 h_3 =>
 OH (oStore 1 h_3 texts5 x24) fun _ h_4 =>
 OP (iLenSl words0) fun x27 =>
 LoopP [(.int .i64 (0))] h_4 fun L1 xs hx =>
 p18z11 P K words0 texts5 (.func (.func 35) #[] #[texts5]) words0 x27 L1 xs hx)
theorem e18 (words0 : Value) (h : Heap) : iwpP P c18 (bodyP [.tmp 2, .tmp 3] K) (frame0 [words0]) h = T18 P K words0 h := by kernel_rfl
theorem f18 {K : VK} {words0 : Value} {h : Heap} (H : T18 Tryd.prog K words0 h) : CallP Tryd.prog 18 [words0] h K :=
 callP_intro k18 (Nat.le_of_ble_eq_true rfl) ((e18 Tryd.prog K words0 h).mpr H)
end Go.Proofs.YthplaillblmgfaaDoor

namespace Go.Proofs.YthplaillblmgfaaDoor
open Go.Sim

theorem SS.monoC {h h' : Heap} {v : Value} {ls : List Tx} (k : CX h h') (p : SS h v ls) : SS h' v ls :=
  ⟨p.len, fun j hj => let ⟨i, o, a, b⟩ := p.get j hj; ⟨i, o, a, CX.load k b⟩⟩

/-- The map in memory. -/
structure St (h : Heap) (im ic : Nat) (l : List (Tx × Tx)) (g : Heap) : Prop where
  ex : EX h g
  hm : g[im]? = some (.gmap .str l.length (tmap l))
  hc : g[ic]? = some (.arr 60 [.map (some im)])

theorem St.push {h : Heap} {im ic : Nat} {l : List (Tx × Tx)} {g g' : Heap} (s : St h im ic l g) (x : EX g g') : St h im ic l g' := ⟨s.ex.trans x, x.get s.hm, x.get s.hc⟩

def rchV (ic : Nat) : Value := .func (.func 35) #[] #[pt ic 0]

theorem reachS {W : List Tx} (ok : Ok W) {h : Heap} {im ic : Nat} (i1 : h.length ≤ im) (i2 : ic ≠ im) {l : List (Tx × Tx)} {g : Heap} {k t : Tx} {K : Value → Heap → Prop} (st : St h im ic l g) (gd : Good W l) (r : Rc W k t) (hl : t.length ≤ 10 * l.length + 10)
    (hk : ∀ b l' g', St h im ic l' g' → CX g g' → Good W l' → Dn l l' → (∃ t', look k l' = some t' ∧ rk t' ≤ rk t) → (b = true → mu W l' < mu W l) → (b = false → l' = l) → K (B b) g') : CallVP Tryd.prog (rchV ic) [S k, S t] g K := by
  have hf := gd.few ok
  refine callVP_fn (by kernel_rfl) ?_
  show CallP Tryd.prog 35 [S k, S t, pt ic 0] g K
  refine C35 st.hc st.hm ⟨(r.key ok).2, by omega⟩ (fun o ho => ⟨((gd.rc k o ho).key ok).2, by have := gd.ln k o ho; omega⟩) (fun hb => ?_) fun hb => ?_
  · refine hk false l g st (CX.refl g) gd (Dn.refl l) ?_ (fun h => by cases h) fun _ => rfl
    cases ho : look k l with
    | none => simp [bet, ho] at hb
    | some o =>
      simp only [bet, ho, decide_eq_false_iff_not] at hb
      exact ⟨o, rfl, by omega⟩
  · refine hk true (put k t l) _ ⟨st.ex.set i1 _, set_get st.hm, ?_⟩ (CX.setG st.hm) (good_put gd r hl hb) (Dn.put hb) ⟨t, by rw [look_put, if_pos rfl], Nat.le_refl _⟩ (fun _ => mu_put ok gd r hl hb) fun h => by cases h
    rw [List.getElem?_set_ne (Ne.symm i2)]
    exact st.hc

theorem C39 {i : Nat} {a b : Tx} {h : Heap} {K : Value → Heap → Prop} (hl : a.length + b.length ≤ 1000000) (hg : h[i]? = some (.arr 9 [S a, S b])) (hk : K (S (a ++ b)) h) : CallP Tryd.prog 39 [sl 9 i 0 2] h K := by
  refine f39 ?_
  have e : Lib.join [a, b] [] = a ++ b := by simp [Lib.join]
  refine C55 (ls := [a, b]) (sep := []) (by simp) (by simp) (by rw [e]; simp; omega) hg ?_
  rw [e]
  exact hk

/-- The keys in order, whether there are any or not. -/
theorem keysC {im : Nat} {l : List (Tx × Tx)} {h : Heap} {K : Value → Heap → Prop} (hm : h[im]? = some (.gmap .str l.length (tmap l))) (hl : l.length ≤ 1000000) (hk : ∀ v g, EX h g → SS g v (sortS (l.map Prod.fst)) → K v g) : CallP Tryd.prog 38 [.map (some im)] h K := by
  by_cases h0 : l = []
  · subst h0
    refine C38n hm (hk _ _ (EX.refl h) ?_)
    have : sortS (([] : List (Tx × Tx)).map Prod.fst) = [] := List.perm_nil.1 (sortS_perm [])
    rw [this]
    exact ⟨rfl, fun k hk => by simp at hk⟩
  · refine C38 hm (Nat.le_refl _) h0 hl (hk _ _ (EX.append _ _) ?_)
    have : l.length = (sortS (l.map Prod.fst)).length := by rw [(sortS_perm _).length_eq, List.length_map]
    rw [this]
    exact SS.sl (by simp [objCells])

theorem iniC {W : List Tx} (ok : Ok W) {h : Heap} {v : Value} {im ic : Nat} (hv : SS h v W) (i1 : h.length ≤ im) (i2 : ic ≠ im) {g : Heap} {K : Value → Heap → Prop} (st : St h im ic [] g)
    (hk : ∀ l g', St h im ic l g' → Good W l → Ini W l → p18z32 Tryd.prog K v (pt ic 0) (rchV ic) g') : LoopP [I 0] g fun L1 xs hx => p18z11 Tryd.prog K v (pt ic 0) (rchV ic) v (I W.length) L1 xs hx := by
  have few := ok.few
  refine loopL (σ := Nat × List (Tx × Tx) × Heap) (fun q => [I q.1]) (fun q => q.2.2) (fun q => q.1 ≤ W.length ∧ St h im ic q.2.1 q.2.2 ∧ Good W q.2.1 ∧ ∀ i (hi : i < W.length), i < q.1 → ∀ w ∈ W, W[i] ≠ w → W[i] <+: w → ∃ t', look (w.drop W[i].length) q.2.1 = some t' ∧ rk t' ≤ rk w) (fun q => W.length - q.1) (0, [], g) rfl rfl ⟨Nat.zero_le _, st, Good.nil W, fun i _ hi => absurd hi (Nat.not_lt_zero _)⟩ ?_
  rintro ⟨i, l, g1⟩ ⟨hi, s1, gd, done⟩ L hL
  simp only at hi s1 gd done hL ⊢
  rw [q18z11]
  simp only [bin_lss, OP_some, IfP_dec]
  refine ⟨fun hlt => ?_, fun hge => ?_⟩
  · have hlt : i < W.length := by omega
    obtain ⟨b, o, a1, a2⟩ := (hv.mono s1.ex).get i hlt
    simp only [a1, a2, OP_some, hv.len]
    refine loopL (σ := Nat × List (Tx × Tx) × Heap) (fun q => [I q.1]) (fun q => q.2.2) (fun q => q.1 ≤ W.length ∧ St h im ic q.2.1 q.2.2 ∧ Good W q.2.1 ∧ Dn l q.2.1 ∧ ∀ j (hj : j < W.length), j < q.1 → W[i] ≠ W[j] → W[i] <+: W[j] → ∃ t', look (W[j].drop W[i].length) q.2.1 = some t' ∧ rk t' ≤ rk W[j]) (fun q => W.length - q.1) (0, l, g1) rfl rfl ⟨Nat.zero_le _, s1, gd, Dn.refl l, fun j _ hj => absurd hj (Nat.not_lt_zero _)⟩ ?_
    rintro ⟨j, l2, g2⟩ ⟨hj, s2, gd2, dn, done2⟩ L2 hL2
    simp only at hj s2 gd2 dn done2 hL2 ⊢
    rw [q18z19]
    simp only [bin_lss, OP_some, IfP_dec]
    refine ⟨fun hlt2 => ?_, fun hge2 => ?_⟩
    · have hlt2 : j < W.length := by omega
      obtain ⟨b2, o2, c1, c2⟩ := (hv.mono s2.ex).get j hlt2
      have step : ∀ l3 g3, St h im ic l3 g3 → Good W l3 → Dn l2 l3 → (W[i] ≠ W[j] → W[i] <+: W[j] → ∃ t', look (W[j].drop W[i].length) l3 = some t' ∧ rk t' ≤ rk W[j]) → p18z30 Tryd.prog K v (pt ic 0) (rchV ic) (I i) (S W[i]) v (I W.length) (I i) v (I W.length) (I j) L L2 g3 := by
        intro l3 g3 s3 gd3 dn3 new
        rw [q18z30]
        simp only [bin_add, OP_some, true_and]
        rw [incM j (by simp [maxLen]; omega)]
        refine hL2 (j + 1, l3, g3) ⟨hlt2, s3, gd3, dn.trans dn3, fun j' hj' hlt' h1 h2 => ?_⟩ (by show W.length - (j + 1) < W.length - j; omega)
        have hlt' : j' < j + 1 := hlt'
        rcases Nat.lt_succ_iff_lt_or_eq.1 hlt' with h' | h'
        · obtain ⟨t', e1, e2⟩ := done2 j' hj' h' h1 h2
          obtain ⟨t2, f1, f2⟩ := dn3 _ _ e1
          exact ⟨t2, f1, Nat.le_trans f2 e2⟩
        · subst h'; exact new h1 h2
      simp only [c1, c2, OP_some, bin_neq]
      rw [q18z27]
      by_cases hij : i = j
      · rw [decide_eq_true (show (i : Int) = j by omega)]
        simp only [Bool.not_true, GdP_ft, q18z29, iPick_f, OP_some, IfP_false]
        exact step l2 g2 s2 gd2 (Dn.refl _) fun h => absurd (by subst hij; rfl) h
      · rw [decide_eq_false (show ¬ (i : Int) = j by omega)]
        simp only [Bool.not_false, GdP_tt]
        refine C37 ?_
        rw [q18z29]
        simp only [iPick_t, OP_some, IfP_dec, lenS_S]
        refine ⟨fun hp => ?_, fun hp => step l2 g2 s2 gd2 (Dn.refl _) fun _ h => absurd h hp⟩
        rw [slS_lo (a := W[j]) hp.length_le .i64]
        simp only [OP_some]
        have hne : W[i] ≠ W[j] := fun e => by
          rcases Nat.lt_or_gt_of_ne hij with h' | h'
          · exact (List.pairwise_iff_getElem.1 ok.nd) i j hlt hlt2 h' e
          · exact (List.pairwise_iff_getElem.1 ok.nd) j i hlt2 hlt h' e.symm
        have r := Rc.init (List.getElem_mem hlt) (List.getElem_mem hlt2) hne hp
        refine reachS ok i1 i2 s2 gd2 r (by have := ok.le _ (List.getElem_mem hlt2); omega) ?_
        intro _ l3 g3 s3 _ gd3 dn3 new _ _
        exact step l3 g3 s3 gd3 dn3 fun _ _ => new
    · rw [q18z31]
      simp only [bin_add, OP_some, true_and]
      rw [incM i (by simp [maxLen]; omega)]
      refine hL (i + 1, l2, g2) ⟨hlt, s2, gd2, fun i' hi' hlt' w hw h1 h2 => ?_⟩ (by show W.length - (i + 1) < W.length - i; omega)
      have hlt' : i' < i + 1 := hlt'
      rcases Nat.lt_succ_iff_lt_or_eq.1 hlt' with h' | h'
      · obtain ⟨t', e1, e2⟩ := done i' hi' h' w hw h1 h2
        obtain ⟨t2, f1, f2⟩ := dn _ _ e1
        exact ⟨t2, f1, Nat.le_trans f2 e2⟩
      · subst h'
        obtain ⟨j', hj', rfl⟩ := List.getElem_of_mem hw
        exact done2 j' hj' (by omega) h1 h2
  · refine hk l g1 s1 gd fun w1 hw1 w hw h1 h2 => ?_
    obtain ⟨j', hj', rfl⟩ := List.getElem_of_mem hw1
    exact done j' hj' (by omega) w hw h1 h2

end Go.Proofs.YthplaillblmgfaaDoor


namespace Go.Proofs.YthplaillblmgfaaDoor
open Go.Sim
variable (P : Program) (K : VK)
/-! F42: pommel/pommelref08.keep -/
noncomputable def c42z8 : ICode := .ops none [⟨(some 21), .p (.pick (.tmp 16) (.tmp 20) (.const (.bool false)))⟩]
noncomputable def c42z6 : ICode := .seq (.ops (some (16, true)) [⟨(some 17), .p (.mv (.tmp 2))⟩,
 ⟨(some 18), .p (.mv (.tmp 7))⟩,
 ⟨(some 19), .call 56 [(.tmp 17), (.tmp 18)]⟩,
 ⟨(some 20), .p (.un .not (.tmp 19))⟩])
 (.cut [0, 1, 2, 16, 20] c42z8)
noncomputable def c42z4 : ICode := .cond (.tmp 21) (.seq (.ops none [⟨(some 6), .p (.mv (.const (.bool false)))⟩])
 (.ret))
 (.skip)
noncomputable def c42z2 : ICode := .seq (.ops none [⟨(some 22), .p (.mv (.tmp 0))⟩,
 ⟨(some 23), .p (.mv (.tmp 1))⟩,
 ⟨(some 24), .p (.mv (.tmp 2))⟩,
 ⟨none, .e (.mupdG .str (.tmp 22) (.tmp 23) (.tmp 24))⟩])
 (.seq (.ops none [⟨(some 6), .p (.mv (.const (.bool true)))⟩])
 (.ret))
noncomputable def c42 : ICode := .seq (.ops none [⟨(some 6), .p (.mv (.const (.bool false)))⟩])
 (.seq (.seq (.ops none [⟨(some 10), .p (.mv (.tmp 0))⟩,
 ⟨(some 11), .p (.mv (.tmp 1))⟩,
 ⟨(some 12), .l (.lookupG .str true (.string ⟨#[]⟩) (.tmp 10) (.tmp 11))⟩,
 ⟨(some 9), .p (.mv (.tmp 12))⟩,
 ⟨(some 13), .p (.ext (.tmp 9) 0)⟩,
 ⟨(some 14), .p (.ext (.tmp 9) 1)⟩,
 ⟨(some 7), .p (.mv (.tmp 13))⟩,
 ⟨(some 8), .p (.mv (.tmp 14))⟩])
 (.seq (.seq (.ops none [⟨(some 15), .p (.mv (.tmp 8))⟩,
 ⟨(some 16), .p (.mv (.tmp 15))⟩])
 (.cut [0, 1, 2, 7, 16] c42z6)) c42z4)) c42z2)
theorem k42 : compFn Tryd.prog 42 [[], [], [0, 1, 2, 7, 16], [0, 1, 2, 16, 20], [], [], [], [], []] = some (25, c42, [.tmp 6]) := by kernel_rfl
def K42z0 (_P : Program) (K : VK) : Kont := bodyP [.tmp 6] K
def K42z2 : Kont := thenK (iwpP P c42z2 (K42z0 P K)) (K42z0 P K)
def K42z4 : Kont := thenK (iwpP P c42z4 (K42z2 P K)) (K42z2 P K)
def p42z6 (best0 ahead1 text2 s7 x16 : Value) (h : Heap) : Prop := CutP (iwpP P c42z6 (K42z4 P K)) [0, 1, 2, 7, 16] [best0, ahead1, text2, s7, x16] h
def p42z8 (best0 ahead1 text2 x16 x20 : Value) (h : Heap) : Prop := CutP (iwpP P c42z8 (K42z4 P K)) [0, 1, 2, 16, 20] [best0, ahead1, text2, x16, x20] h
theorem q42z8 (best0 ahead1 text2 x16 x20 : Value) (h : Heap) : p42z8 P K best0 ahead1 text2 x16 x20 h =
 (OP (iPick x16 x20 (.bool false)) fun x21 =>
 IfP x21
 (K (.bool false) h)
 (OH (oMupdG .str h best0 ahead1 text2) fun _ h_1 =>
 K (.bool true) h_1)) := (CutP_def _ _ _ _).trans (by kernel_rfl)
theorem q42z6 (best0 ahead1 text2 s7 x16 : Value) (h : Heap) : p42z6 P K best0 ahead1 text2 s7 x16 h =
 (GdP x16 true
 (CallP P 56 [text2, s7] h fun x19 h_1 =>
 OP (iUn .not x19) fun x20 =>
 p42z8 P K best0 ahead1 text2 x16 x20 h_1)
 (p42z8 P K best0 ahead1 text2 x16 undef h)) := (CutP_def _ _ _ _).trans (by kernel_rfl)
def T42 (best0 ahead1 text2 : Value) (h : Heap) : Prop :=
 OP (iLookupG .str true (.string ⟨#[]⟩) h best0 ahead1) fun x12 =>
 OP (iExt 0 x12) fun x13 =>
 OP (iExt 1 x12) fun x14 =>
 p42z6 P K best0 ahead1 text2 x13 x14 h
theorem e42 (best0 ahead1 text2 : Value) (h : Heap) : iwpP P c42 (bodyP [.tmp 6] K) (frame0 [best0, ahead1, text2]) h = T42 P K best0 ahead1 text2 h := by kernel_rfl
theorem f42 {K : VK} {best0 ahead1 text2 : Value} {h : Heap} (H : T42 Tryd.prog K best0 ahead1 text2 h) : CallP Tryd.prog 42 [best0, ahead1, text2] h K :=
 callP_intro k42 (Nat.le_of_ble_eq_true rfl) ((e42 Tryd.prog K best0 ahead1 text2 h).mpr H)
/-! F56: pommel/pommelref08.less -/
noncomputable def c56z10 : ICode := .ops none [⟨(some 21), .p (.pick (.tmp 10) (.const (.bool true)) (.tmp 20))⟩,
 ⟨(some 4), .p (.mv (.tmp 21))⟩]
noncomputable def c56z8 : ICode := .seq (.ops (some (10, false)) [⟨(some 20), .p (.pick (.tmp 16) (.tmp 19) (.const (.bool false)))⟩])
 (.cut [10, 20] c56z10)
noncomputable def c56z6 : ICode := .seq (.ops (some (16, true)) [⟨(some 17), .p (.mv (.tmp 0))⟩,
 ⟨(some 18), .p (.mv (.tmp 1))⟩,
 ⟨(some 19), .p (.bin .lss (.tmp 17) (.tmp 18))⟩])
 (.cut [10, 16, 19] c56z8)
noncomputable def c56z4 : ICode := .seq (.ops (some (10, false)) [⟨(some 11), .p (.mv (.tmp 0))⟩,
 ⟨(some 12), .p (.lenS (.tmp 11))⟩,
 ⟨(some 13), .p (.mv (.tmp 1))⟩,
 ⟨(some 14), .p (.lenS (.tmp 13))⟩,
 ⟨(some 15), .p (.bin .eql (.tmp 12) (.tmp 14))⟩,
 ⟨(some 16), .p (.mv (.tmp 15))⟩])
 (.cut [0, 1, 10, 16] c56z6)
noncomputable def c56z2 : ICode := .ret
noncomputable def c56 : ICode := .seq (.ops none [⟨(some 4), .p (.mv (.const (.bool false)))⟩])
 (.seq (.seq (.ops none [⟨(some 5), .p (.mv (.tmp 0))⟩,
 ⟨(some 6), .p (.lenS (.tmp 5))⟩,
 ⟨(some 7), .p (.mv (.tmp 1))⟩,
 ⟨(some 8), .p (.lenS (.tmp 7))⟩,
 ⟨(some 9), .p (.bin .lss (.tmp 6) (.tmp 8))⟩,
 ⟨(some 10), .p (.mv (.tmp 9))⟩])
 (.cut [0, 1, 10] c56z4)) c56z2)
theorem k56 : compFn Tryd.prog 56 [[], [0, 1, 10], [0, 1, 10, 16], [10, 16, 19], [10, 20], []] = some (22, c56, [.tmp 4]) := by kernel_rfl
def K56z0 (_P : Program) (K : VK) : Kont := bodyP [.tmp 4] K
def K56z2 : Kont := thenK (iwpP P c56z2 (K56z0 P K)) (K56z0 P K)
def p56z4 (s0 t1 x10 : Value) (h : Heap) : Prop := CutP (iwpP P c56z4 (K56z2 P K)) [0, 1, 10] [s0, t1, x10] h
def p56z6 (s0 t1 x10 x16 : Value) (h : Heap) : Prop := CutP (iwpP P c56z6 (K56z2 P K)) [0, 1, 10, 16] [s0, t1, x10, x16] h
def p56z8 (x10 x16 x19 : Value) (h : Heap) : Prop := CutP (iwpP P c56z8 (K56z2 P K)) [10, 16, 19] [x10, x16, x19] h
def p56z10 (x10 x20 : Value) (h : Heap) : Prop := CutP (iwpP P c56z10 (K56z2 P K)) [10, 20] [x10, x20] h
theorem q56z10 (x10 x20 : Value) (h : Heap) : p56z10 P K x10 x20 h =
 (OP (iPick x10 (.bool true) x20) fun x21 =>
 K x21 h) := (CutP_def _ _ _ _).trans (by kernel_rfl)
theorem q56z8 (x10 x16 x19 : Value) (h : Heap) : p56z8 P K x10 x16 x19 h =
 (GdP x10 false
 (OP (iPick x16 x19 (.bool false)) fun x20 =>
 p56z10 P K x10 x20 h)
 (p56z10 P K x10 undef h)) := (CutP_def _ _ _ _).trans (by kernel_rfl)
theorem q56z6 (s0 t1 x10 x16 : Value) (h : Heap) : p56z6 P K s0 t1 x10 x16 h =
 (GdP x16 true
 (OP (iBin .lss s0 t1) fun x19 =>
 p56z8 P K x10 x16 x19 h)
 (p56z8 P K x10 x16 undef h)) := (CutP_def _ _ _ _).trans (by kernel_rfl)
theorem q56z4 (s0 t1 x10 : Value) (h : Heap) : p56z4 P K s0 t1 x10 h =
 (GdP x10 false
 (OP (iLenS s0) fun x12 =>
 OP (iLenS t1) fun x14 =>
 OP (iBin .eql x12 x14) fun x15 =>
 p56z6 P K s0 t1 x10 x15 h)
 (p56z6 P K s0 t1 x10 undef h)) := (CutP_def _ _ _ _).trans (by kernel_rfl)
def T56 (s0 t1 : Value) (h : Heap) : Prop :=
 OP (iLenS s0) fun x6 =>
 OP (iLenS t1) fun x8 =>
 OP (iBin .lss x6 x8) fun x9 =>
 p56z4 P K s0 t1 x9 h
theorem e56 (s0 t1 : Value) (h : Heap) : iwpP P c56 (bodyP [.tmp 4] K) (frame0 [s0, t1]) h = T56 P K s0 t1 h := by kernel_rfl
theorem f56 {K : VK} {s0 t1 : Value} {h : Heap} (H : T56 Tryd.prog K s0 t1 h) : CallP Tryd.prog 56 [s0, t1] h K :=
 callP_intro k56 (Nat.le_of_ble_eq_true rfl) ((e56 Tryd.prog K s0 t1 h).mpr H)
end Go.Proofs.YthplaillblmgfaaDoor

namespace Go.Proofs.YthplaillblmgfaaDoor
open Go.Sim

theorem C56 {a b : Tx} {h : Heap} {K : Value → Heap → Prop} (ha : bitsB a = true) (hb : bitsB b = true) (hk : K (B (decide (rk a < rk b))) h) : CallP Tryd.prog 56 [S a, S b] h K := by
  refine f56 ?_
  unfold T56
  simp only [lenS_S, OP_some, bin_lss]
  rw [q56z4]
  have e : iBin .lss (S a) (S b) = some (B (Op.bytesLess a b)) := by simp [iBin, iStr, S]
  by_cases h1 : a.length < b.length
  · rw [decide_eq_true (show (a.length : Int) < b.length by omega)]
    simp only [GdP_tf, q56z6, GdP_undef, q56z8, q56z10, iPick_t, OP_some]
    rwa [decide_eq_true (rk_short h1)] at hk
  · rw [decide_eq_false (show ¬ (a.length : Int) < b.length by omega)]
    simp only [GdP_ff, lenS_S, OP_some, bin_eql]
    by_cases h2 : a.length = b.length
    · rw [decide_eq_true (show (a.length : Int) = b.length by omega)]
      simp only [q56z6, GdP_tt, e, OP_some, q56z8, GdP_ff, iPick_t, q56z10, iPick_f]
      rw [vl_lt 1 h2 ha hb]
      exact hk
    · rw [decide_eq_false (show ¬ (a.length : Int) = b.length by omega)]
      simp only [q56z6, GdP_ft, OP_some, q56z8, GdP_ff, q56z10, iPick_f]
      have : ¬ rk a < rk b := fun hc => by have := rk_len (Nat.le_of_lt hc); omega
      rwa [decide_eq_false this] at hk

/-- What a range may come to, entries being added. -/
theorem nexts_grow {h : Heap} {im it since last : Nat} {l : List (Tx × Tx)} {seen : List Nat} (hm : h[im]? = some (.gmap .str l.length (tmap l))) (hi : h[it]? = some (.iter im since seen last)) (hs : seen = [] ∨ 1 ≤ last) :
    ∃ L, nexts h (pt it 0) = some L ∧ ∀ pr ∈ L, (pr = (.tuple #[.bool false], h) ∧ ∀ b, b < since → b < l.length → b ∈ seen) ∨
      ∃ (b : Nat) (p : Tx × Tx), l[b]? = some p ∧ b ∉ seen ∧ pr = (.tuple #[.bool true, S p.1, S p.2], h.set it (.iter im since (seen ++ [b]) l.length)) := by
  have e3 : (!seen.isEmpty && !(tmap l).isEmpty && (tmap l).all fun e => decide (last ≤ e.1)) = false := by
    rcases hs with rfl | hs
    · rfl
    · cases l with
      | nil => simp [tmap]
      | cons p l =>
        have : ((tmap (p :: l)).all fun e => decide (last ≤ e.1)) = false := by
          rw [List.all_eq_false]
          exact ⟨(0, S p.1, S p.2), tmap_mem.2 ⟨p, rfl, rfl, rfl⟩, by simp; omega⟩
        rw [this, Bool.and_false]
  refine ⟨_, by simp only [nexts, pt, hi, hm, e3, Bool.false_eq_true, if_false]; rfl, fun pr hpr => ?_⟩
  rcases List.mem_append.1 hpr with hpr | hpr
  · split at hpr
    · rename_i he
      refine .inl ⟨by simpa using hpr, fun b hb hbl => ?_⟩
      apply Classical.byContradiction
      intro hns
      have : (b, S l[b].1, S l[b].2) ∈ ((tmap l).filter fun e => !seen.contains e.1).filter fun e => decide (e.1 < since) :=
        List.mem_filter.2 ⟨List.mem_filter.2 ⟨tmap_mem.2 ⟨l[b], by simp [hbl], rfl, rfl⟩, by simpa using hns⟩, by simpa using hb⟩
      rw [List.isEmpty_iff.1 he] at this
      simp at this
    · simp at hpr
  · obtain ⟨e, he, rfl⟩ := List.mem_map.1 hpr
    have he' : e ∈ (tmap l).filter fun e => !seen.contains e.1 := by
      rcases List.mem_append.1 he with he | he <;> exact (List.mem_filter.1 he).1
    obtain ⟨h1, h2⟩ := List.mem_filter.1 he'
    obtain ⟨p, hp, k1, k2⟩ := tmap_mem.1 h1
    exact .inr ⟨e.1, p, hp, by simpa using h2, by rw [k1, k2]⟩

structure Sm (h : Heap) (im : Nat) (l : List (Tx × Tx)) (g : Heap) : Prop where
  ex : EX h g
  hm : g[im]? = some (.gmap .str l.length (tmap l))

theorem keepS {W : List Tx} (ok : Ok W) {h : Heap} {im : Nat} (i1 : h.length ≤ im) {l : List (Tx × Tx)} {g : Heap} {k t : Tx} {K : Value → Heap → Prop} (st : Sm h im l g) (gd : Good W l) (r : Rc W k t) (hl : t.length ≤ 10 * l.length + 10)
    (hk : ∀ b l' g', Sm h im l' g' → (∀ d, d ≠ im → g'[d]? = g[d]?) → g'.length = g.length → Good W l' → Dn l l' → l.length ≤ l'.length → (∃ t', look k l' = some t' ∧ rk t' ≤ rk t) → (b = true → mu W l' < mu W l) → (b = false → l' = l) → K (B b) g') : CallP Tryd.prog 42 [.map (some im), S k, S t] g K := by
  have hf := gd.few ok
  refine f42 ?_
  unfold T42
  have gk : ∀ s : Tx, gkIs .str (S s) = true := fun _ => rfl
  have e2 : iLookupG .str true (.string ⟨#[]⟩) g (.map (some im)) (S k) = some (.tuple #[((look k l).map S).getD (S []), B (look k l).isSome]) := by
    simp only [iLookupG, st.hm, gk, findG_tmap]
    cases look k l <;> rfl
  have upd : iMupdG .str g (.map (some im)) (S k) (S t) = some (g.set im (.gmap .str (put k t l).length (tmap (put k t l)))) := by
    simp only [iMupdG, st.hm, gk, setG_tmap, clkG_tmap k t]
    rfl
  have yes : bet k t l = true → K (B true) (g.set im (.gmap .str (put k t l).length (tmap (put k t l)))) := fun hb =>
    hk true (put k t l) _ ⟨st.ex.set i1 _, set_get st.hm⟩ (fun d hd => List.getElem?_set_ne (Ne.symm hd)) (by simp) (good_put gd r hl hb) (Dn.put hb) (by rw [put_len]; split <;> omega) ⟨t, by rw [look_put, if_pos rfl], Nat.le_refl _⟩ (fun _ => mu_put ok gd r hl hb) fun h => by cases h
  simp only [OP_some, e2, ext_tuple, pair0, pair1]
  rw [q42z6]
  cases ho : look k l with
  | none =>
    simp only [Option.isSome_none, GdP_ft, q42z8, iPick_f, OP_some, IfP_false, oMupdG, upd, Option.map_some, OH_some]
    exact yes (by simp [bet, ho])
  | some o =>
    simp only [Option.isSome_some, GdP_tt, Option.map_some, Option.getD_some]
    refine C56 (r.key ok).2 ((gd.rc k o ho).key ok).2 ?_
    have hb : bet k t l = decide (rk t < rk o) := by simp [bet, ho]
    simp only [un_not, OP_some, q42z8, iPick_t]
    rw [← hb]
    cases h : bet k t l with
    | false =>
      simp only [Bool.not_false, IfP_true]
      refine hk false l g st (fun _ _ => rfl) rfl gd (Dn.refl l) (Nat.le_refl _) ⟨o, ho, ?_⟩ (fun h => by cases h) fun _ => rfl
      rw [hb, decide_eq_false_iff_not] at h
      omega
    | true =>
      simp only [Bool.not_true, IfP_false, OP_some, oMupdG, upd, Option.map_some, OH_some]
      exact yes h

theorem exLeast {W : List Tx} {t : Tx} (r : Rc W [] t) : ∃ t, Rc W [] t ∧ ∀ t', Rc W [] t' → rk t ≤ rk t' := by
  have : ∀ n (t : Tx), rk t ≤ n → Rc W [] t → ∃ t, Rc W [] t ∧ ∀ t', Rc W [] t' → rk t ≤ rk t' := by
    intro n
    induction n with
    | zero => intro t hn r; exact ⟨t, r, fun t' _ => by omega⟩
    | succ n ih =>
      intro t hn r
      by_cases h : ∃ t', Rc W [] t' ∧ rk t' < rk t
      · obtain ⟨t', r', hl⟩ := h
        exact ih t' (by omega) r'
      · exact ⟨t, r, fun t' r' => Nat.le_of_not_lt fun hl => h ⟨t', r', hl⟩⟩
  exact this _ t (Nat.le_refl _) r

end Go.Proofs.YthplaillblmgfaaDoor


namespace Go.Proofs.YthplaillblmgfaaDoor
open Go.Sim

theorem mk2 (g : Heap) (a b : Tx) : iMkSl 9 2 [(.string ⟨#[]⟩)] g [(0, 1, S a), (1, 1, S b)] = some (sl 9 g.length 0 2, g ++ [.arr 9 [S a, S b]]) := by
  have va : vcells (S a) = [S a] := rfl
  have vb : vcells (S b) = [S b] := rfl
  have na : noTuple (S a) = true := rfl
  have nb : noTuple (S b) = true := rfl
  simp [iMkSl, fillL, zrep, setAt, va, vb, na, nb]

section
variable {W : List Tx} (ok : Ok W) {h : Heap} {v kv : Value} {im ic : Nat} {K : Value → Heap → Prop}
include ok

/-- One key, all words. -/
theorem keyC (i1 : h.length ≤ im) (i2 : ic ≠ im) {l0 l1 : List (Tx × Tx)} {a : Tx} {more : Bool} {kn : Nat} {idx : Value} {L1 L2 : List Value → Heap → Prop} {g : Heap} (hv : SS h v W) (ha : ∃ t, look a l1 = some t) (st : St h im ic l1 g) (gd : Good W l1) (h1 : more = true → mu W l1 < mu W l0) (h2 : more = false → l1 = l0)
    (hk : ∀ more' l' g', St h im ic l' g' → CX g g' → Good W l' → Dn l1 l' → (more' = true → mu W l' < mu W l0) → (more' = false → more = false ∧ l' = l0 ∧ ∀ w ∈ W, Clo l0 a w) → p18z67 Tryd.prog K v (pt ic 0) (rchV ic) (B more') kv (I kn) idx L1 L2 g') :
    LoopP [B more, I 0] g fun L3 xs hx => p18z51 Tryd.prog K v (pt ic 0) (rchV ic) (S a) kv (I kn) idx v (I W.length) L1 L2 L3 xs hx := by
  have few := ok.few
  have e1 : ∀ s : List UInt8, iBin .eql (S s) (.string ⟨#[]⟩) = some (B (decide (s = []))) := fun s => by show iBin .eql (S s) (S []) = _; rw [bin_eqlS]
  refine loopL (σ := Bool × Nat × List (Tx × Tx) × Heap) (fun q => [B q.1, I q.2.1]) (fun q => q.2.2.2) (fun q => q.2.1 ≤ W.length ∧ St h im ic q.2.2.1 q.2.2.2 ∧ CX g q.2.2.2 ∧ Good W q.2.2.1 ∧ Dn l1 q.2.2.1 ∧ (q.1 = true → mu W q.2.2.1 < mu W l0) ∧ (q.1 = false → more = false ∧ q.2.2.1 = l0 ∧ ∀ j (hj : j < W.length), j < q.2.1 → Clo l0 a W[j])) (fun q => W.length - q.2.1) (more, 0, l1, g) rfl rfl ⟨Nat.zero_le _, st, CX.refl g, gd, Dn.refl l1, h1, fun hm => ⟨hm, h2 hm, fun j _ hj => absurd hj (Nat.not_lt_zero _)⟩⟩ ?_
  rintro ⟨m, j, l, g1⟩ ⟨hj, s1, cx, gd1, dn, h3, h4⟩ L hL
  simp only at hj s1 cx gd1 dn h3 h4 hL ⊢
  rw [q18z51]
  simp only [bin_lss, OP_some, IfP_dec]
  refine ⟨fun hlt => ?_, fun hge => ?_⟩
  · have hlt : j < W.length := by omega
    obtain ⟨b, o, a1, a2⟩ := (hv.mono s1.ex).get j hlt
    have mem := List.getElem_mem hlt
    have wl := ok.le _ mem
    -- the step ends: a new map, what it has of this word
    have step : ∀ m' l2 g2, St h im ic l2 g2 → CX g1 g2 → Good W l2 → Dn l l2 → (m' = true → mu W l2 < mu W l0) → (m' = false → m = false ∧ l2 = l ∧ Clo l2 a W[j]) → p18z66 Tryd.prog K v (pt ic 0) (rchV ic) (B m') (S a) kv (I kn) idx v (I W.length) (I j) L1 L2 L g2 := by
      intro m' l2 g2 s2 cx2 gd2 dn2 q1 q2
      rw [q18z66]
      simp only [bin_add, OP_some, true_and]
      rw [incM j (by simp [maxLen]; omega)]
      refine hL (m', j + 1, l2, g2) ⟨hlt, s2, cx.trans cx2, gd2, dn.trans dn2, q1, fun hm => ?_⟩ (by show W.length - (j + 1) < W.length - j; omega)
      obtain ⟨r1, r2, r3⟩ := q2 hm
      obtain ⟨r4, r5, r6⟩ := h4 r1
      have el : l2 = l0 := r2.trans r5
      refine ⟨r4, el, fun j' hj' hlt' => ?_⟩
      have hlt' : j' < j + 1 := hlt'
      rcases Nat.lt_succ_iff_lt_or_eq.1 hlt' with h' | h'
      · exact r6 j' hj' h'
      · subst h'; exact el ▸ r3
    have same : (Clo l a W[j]) → p18z66 Tryd.prog K v (pt ic 0) (rchV ic) (B m) (S a) kv (I kn) idx v (I W.length) (I j) L1 L2 L g1 := fun hc => step m l g1 s1 (CX.refl g1) gd1 (Dn.refl l) h3 fun hm => ⟨hm, rfl, hc⟩
    simp only [a1, a2, OP_some, e1, IfP_dec]
    refine ⟨fun h0 => same fun hn => absurd h0 hn, fun h0 => ?_⟩
    obtain ⟨t0, ht0⟩ := ha
    obtain ⟨t, ht, _⟩ := dn _ _ ht0
    have rc := gd1.rc a t ht
    have tl := gd1.ln a t ht
    have fw := gd1.few ok
    have ld : ∀ g', St h im ic l g' → iLoad false 1 g' (pt ic 0) = some (.map (some im)) := fun g' s => by simp [iLoad, objCells, s.hc, iPart]
    have lk : ∀ g', St h im ic l g' → iLookupG .str false (.string ⟨#[]⟩) g' (.map (some im)) (S a) = some (S t) := fun g' s => by
      simp only [iLookupG, s.hm, findG_tmap, ht]
      rfl
    refine C37 ?_
    simp only [IfP_dec]
    refine ⟨fun hp => ?_, fun hp => C37 ?_⟩
    · simp only [lenS_S, OP_some, slS_lo (a := W[j]) hp.length_le .i64, ld g1 s1, lk g1 s1, mk2, OH_some]
      have dl : (W[j].drop a.length).length ≤ 10 := by rw [List.length_drop]; omega
      refine C39 (by omega) get_last ?_
      refine reachS ok i1 i2 (s1.push (EX.append _ _)) gd1 (Rc.fwd rc h0 mem hp) (by rw [List.length_append]; omega) ?_
      intro bb l2 g2 s2 cx2 gd2 dn2 new q1 q2
      have cx3 : CX g1 g2 := (CX.ex (EX.append _ _)).trans cx2
      rw [q18z62]
      cases bb with
      | true =>
        simp only [GdP_tf, q18z64, iPick_t, OP_some]
        refine step true l2 g2 s2 cx3 gd2 dn2 (fun _ => ?_) fun h => by cases h
        have := q1 rfl
        cases m with
        | true => have := h3 rfl; omega
        | false => rw [(h4 rfl).2.1] at this; exact this
      | false =>
        simp only [GdP_ff, q18z64, iPick_f, OP_some]
        have el := q2 rfl
        subst el
        refine step m l2 g2 s2 cx3 gd2 dn2 h3 fun hm => ⟨hm, rfl, fun _ t' ht' => ⟨fun _ => ?_, fun hn => absurd hp hn⟩⟩
        rw [ht] at ht'
        cases ht'
        exact new
    · simp only [IfP_dec]
      refine ⟨fun hq => ?_, fun hq => same fun _ t' _ => ⟨fun h => absurd h hp, fun _ h => absurd h hq⟩⟩
      simp only [lenS_S, OP_some, slS_lo (a := a) hq.length_le .i64, ld g1 s1, lk g1 s1, true_and]
      refine reachS ok i1 i2 s1 gd1 (Rc.bwd rc h0 mem hq) (by omega) ?_
      intro bb l2 g2 s2 cx3 gd2 dn2 new q1 q2
      cases bb with
      | true =>
        simp only [GdP_tf, iPick_t, OP_some]
        refine step true l2 g2 s2 cx3 gd2 dn2 (fun _ => ?_) fun h => by cases h
        have := q1 rfl
        cases m with
        | true => have := h3 rfl; omega
        | false => rw [(h4 rfl).2.1] at this; exact this
      | false =>
        simp only [GdP_ff, iPick_f, OP_some]
        have el := q2 rfl
        subst el
        refine step m l2 g2 s2 cx3 gd2 dn2 h3 fun hm => ⟨hm, rfl, fun _ t' ht' => ⟨fun h => absurd h hp, fun _ _ => ?_⟩⟩
        rw [ht] at ht'
        cases ht'
        exact new
  · refine hk m l g1 s1 cx gd1 dn h3 fun hm => ?_
    obtain ⟨r1, r2, r3⟩ := h4 hm
    refine ⟨r1, r2, fun w hw => ?_⟩
    obtain ⟨j', hj', rfl⟩ := List.getElem_of_mem hw
    exact r3 j' hj' (by omega)

/-- One pass. -/
theorem passC (i1 : h.length ≤ im) (i2 : ic ≠ im) {l0 : List (Tx × Tx)} {ks : List Tx} {L1 : List Value → Heap → Prop} {g : Heap} (hv : SS h v W) (hkv : SS g kv ks) (hks : ∀ a ∈ ks, ∃ t, look a l0 = some t) (hln : ks.length ≤ 1000000) (st : St h im ic l0 g) (gd : Good W l0)
    (hk : ∀ more' l' g', St h im ic l' g' → Good W l' → Dn l0 l' → (more' = true → mu W l' < mu W l0) → (more' = false → l' = l0 ∧ ∀ a ∈ ks, ∀ w ∈ W, Clo l0 a w) → L1 [B more'] g') :
    LoopP [B false, I 0] g fun L2 xs hx => p18z43 Tryd.prog K v (pt ic 0) (rchV ic) kv (I ks.length) L1 L2 xs hx := by
  refine loopL (σ := Bool × Nat × List (Tx × Tx) × Heap) (fun q => [B q.1, I q.2.1]) (fun q => q.2.2.2) (fun q => q.2.1 ≤ ks.length ∧ St h im ic q.2.2.1 q.2.2.2 ∧ CX g q.2.2.2 ∧ Good W q.2.2.1 ∧ Dn l0 q.2.2.1 ∧ (q.1 = true → mu W q.2.2.1 < mu W l0) ∧ (q.1 = false → q.2.2.1 = l0 ∧ ∀ j (hj : j < ks.length), j < q.2.1 → ∀ w ∈ W, Clo l0 ks[j] w)) (fun q => ks.length - q.2.1) (false, 0, l0, g) rfl rfl ⟨Nat.zero_le _, st, CX.refl g, gd, Dn.refl l0, fun h => (by cases h), fun _ => ⟨rfl, fun j _ hj => absurd hj (Nat.not_lt_zero _)⟩⟩ ?_
  rintro ⟨m, j, l, g1⟩ ⟨hj, s1, cx, gd1, dn, h3, h4⟩ L hL
  simp only at hj s1 cx gd1 dn h3 h4 hL ⊢
  rw [q18z43]
  simp only [bin_lss, OP_some, IfP_dec]
  refine ⟨fun hlt => ?_, fun hge => ⟨trivial, ?_⟩⟩
  · have hlt : j < ks.length := by omega
    obtain ⟨b, o, a1, a2⟩ := (SS.monoC cx hkv).get j hlt
    simp only [a1, a2, OP_some, hv.len]
    obtain ⟨t0, ht0⟩ := hks _ (List.getElem_mem hlt)
    obtain ⟨t1, ht1, _⟩ := dn _ _ ht0
    refine keyC ok i1 i2 hv ⟨t1, ht1⟩ s1 gd1 h3 (fun hm => (h4 hm).1) ?_
    intro m' l2 g2 s2 cx2 gd2 dn2 q1 q2
    rw [q18z67]
    simp only [bin_add, OP_some, true_and]
    rw [incM j (by simp [maxLen]; omega)]
    refine hL (m', j + 1, l2, g2) ⟨hlt, s2, cx.trans cx2, gd2, dn.trans dn2, q1, fun hm => ?_⟩ (by show ks.length - (j + 1) < ks.length - j; omega)
    obtain ⟨r1, r2, r3⟩ := q2 hm
    refine ⟨r2, fun j' hj' hlt' => ?_⟩
    have hlt' : j' < j + 1 := hlt'
    rcases Nat.lt_succ_iff_lt_or_eq.1 hlt' with h' | h'
    · exact (h4 r1).2 j' hj' h'
    · subst h'; exact r3
  · refine hk m l g1 s1 gd1 dn h3 fun hm => ⟨(h4 hm).1, fun a ha => ?_⟩
    obtain ⟨j', hj', rfl⟩ := List.getElem_of_mem ha
    exact (h4 hm).2 j' hj' (by omega)

theorem loopC (i1 : h.length ≤ im) (i2 : ic ≠ im) {l : List (Tx × Tx)} {g : Heap} (hv : SS h v W) (st : St h im ic l g) (gd : Good W l) (hi : Ini W l)
    (hno : (∀ t, ¬ Rc W [] t) → ∀ h', EX h h' → K (.tuple #[S [], I 5]) h')
    (hyes : ∀ t, Rc W [] t → (∀ t', Rc W [] t' → rk t ≤ rk t') → ∀ h', EX h h' → K (.tuple #[S t, I 0]) h') : p18z32 Tryd.prog K v (pt ic 0) (rchV ic) g := by
  rw [q18z32]
  have ld : ∀ l g', St h im ic l g' → iLoad false 1 g' (pt ic 0) = some (.map (some im)) := fun l g' s => by simp [iLoad, objCells, s.hc, iPart]
  refine loopL (σ := Bool × List (Tx × Tx) × Heap) (fun q => [B q.1]) (fun q => q.2.2) (fun q => St h im ic q.2.1 q.2.2 ∧ Good W q.2.1 ∧ Ini W q.2.1 ∧ (q.1 = false → ∀ a t, look a q.2.1 = some t → ∀ w ∈ W, Clo q.2.1 a w)) (fun q => 2 * mu W q.2.1 + (if q.1 then 1 else 0)) (true, l, g) rfl rfl ⟨st, gd, hi, fun h => by cases h⟩ ?_
  rintro ⟨m, l1, g1⟩ ⟨s1, gd1, in1, cl⟩ L hL
  simp only at s1 gd1 in1 cl hL ⊢
  have few := gd1.few ok
  rw [q18z36]
  cases m with
  | true =>
    simp only [IfP_true, ld _ _ s1, OP_some]
    refine keysC s1.hm (by omega) ?_
    intro kv g2 x2 hkv
    simp only [hkv.len, OP_some]
    have mem : ∀ a, a ∈ sortS (l1.map Prod.fst) ↔ a ∈ l1.map Prod.fst := fun a => (sortS_perm _).mem_iff
    refine passC ok i1 i2 hv hkv (fun a ha => mem_look ((mem a).1 ha)) (by rw [(sortS_perm _).length_eq, List.length_map]; omega) (s1.push x2) gd1 ?_
    intro m' l2 g3 s3 gd3 dn q1 q2
    refine hL (m', l2, g3) ⟨s3, gd3, in1.dn dn, fun hm a t ht w hw => ?_⟩ ?_
    · obtain ⟨r1, r2⟩ := q2 hm
      simp only at r1 ht ⊢
      rw [r1] at ht ⊢
      exact r2 a ((mem a).2 (List.mem_map.2 ⟨_, look_mem ht, rfl⟩)) w hw
    · show 2 * mu W l2 + (if m' = true then 1 else 0) < 2 * mu W l1 + 1
      cases m' with
      | true => have := q1 rfl; simp only [if_true]; omega
      | false => rw [(q2 rfl).1]; simp
  | false =>
    simp only [IfP_false]
    rw [q18z68]
    have e2 : iLookupG .str true (.string ⟨#[]⟩) g1 (.map (some im)) (S []) = some (.tuple #[((look [] l1).map S).getD (S []), B (look [] l1).isSome]) := by
      simp only [iLookupG, s1.hm, findG_tmap]
      cases look [] l1 <;> rfl
    have e2' : iLookupG .str true (.string ⟨#[]⟩) g1 (.map (some im)) (.string ⟨#[]⟩) = some (.tuple #[((look [] l1).map S).getD (S []), B (look [] l1).isSome]) := e2
    simp only [ld _ _ s1, OP_some, e2', ext_tuple, pair0, pair1, un_not]
    have key : ∀ {t : Tx}, Rc W [] t → ∃ t', look [] l1 = some t' ∧ rk t' ≤ rk t := fun r => least in1 (cl rfl) r
    cases hl : look [] l1 with
    | none =>
      simp only [Option.isSome_none, Bool.not_false, IfP_true]
      refine hno (fun t r => ?_) _ s1.ex
      obtain ⟨t', e, _⟩ := key r
      rw [hl] at e
      cases e
    | some t =>
      simp only [Option.isSome_some, Bool.not_true, IfP_false, Option.map_some, Option.getD_some]
      refine hyes t (gd1.rc _ _ hl) (fun t' r => ?_) _ s1.ex
      obtain ⟨u, e, hle⟩ := key r
      rw [hl] at e
      cases e
      exact hle

end

theorem codeOk_Ok {ls : List Tx} (h : chkE ls [] = 0) : ls ≠ [] ∧ Ok ls := by
  unfold chkE at h
  split at h
  · cases h
  · rename_i h1
    split at h
    · cases h
    · rename_i h2
      split at h
      · rename_i h3
        exact ⟨fun e => h2 (.inl e), ⟨h3.1, fun w hw => (h3.2 w hw).1, fun w hw => (h3.2 w hw).2.1, fun w hw => (h3.2 w hw).2.2, by omega⟩⟩
      · cases h

theorem C18 {b : Nat} {v : Value} {ls : List Tx} {h : Heap} {K : Value → Heap → Prop} (hv : OwnS b h 9 v (ls.map S)) (hl : ls.length < 1000000) (hw : ∀ w ∈ ls, w.length < 4611686018427387904)
    (he : chkE ls [] ≠ 0 → ∀ h', EX h h' → K (.tuple #[S [], I (chkE ls [])]) h')
    (hno : chkE ls [] = 0 → (∀ t, ¬ Rc ls [] t) → ∀ h', EX h h' → K (.tuple #[S [], I 5]) h')
    (hyes : chkE ls [] = 0 → ∀ t, Rc ls [] t → (∀ t', Rc ls [] t' → rk t ≤ rk t') → ∀ h', EX h h' → K (.tuple #[S t, I 0]) h') : CallP Tryd.prog 18 [v] h K := by
  refine f18 ?_
  unfold T18
  have nilS : (.string ⟨#[]⟩ : Value) = S [] := rfl
  rw [nilS]
  refine C34 (s := []) hv hl hw (by simp) ?_
  intro h1 x1
  simp only [bin_neq, OP_some, IfP_ndec]
  refine ⟨fun hc => he hc h1 x1, fun hc => ?_⟩
  have ok := (codeOk_Ok hc).2
  have hs := (own_ss hv).mono x1
  have n1 : h1.length + 1 = (h1 ++ [IObj.gmap .str 0 []]).length := by simp
  have e1 : iAlloc 60 [(.map none)] (h1 ++ [IObj.gmap .str 0 []]) = some (pt (h1.length + 1) 0, h1 ++ [IObj.gmap .str 0 []] ++ [.arr 60 [.map none]]) := by
    rw [n1]; rfl
  have e2 : oStore 1 (h1 ++ [IObj.gmap .str 0 []] ++ [.arr 60 [.map none]]) (pt (h1.length + 1) 0) (.map (some h1.length)) = some (undef, h1 ++ [IObj.gmap .str 0 []] ++ [.arr 60 [.map (some h1.length)]]) := by
    have hg : (h1 ++ [IObj.gmap .str 0 []] ++ [IObj.arr 60 [.map none]])[h1.length + 1]? = some (.arr 60 [.map none]) := by rw [n1]; exact get_last
    rw [store_at hg (by simp) rfl rfl, n1]
    simp
  simp only [iMkMapG, OH_some, e1, e2, hs.len, OP_some]
  have ex : EX h1 (h1 ++ [IObj.gmap .str 0 []] ++ [.arr 60 [.map (some h1.length)]]) := (EX.append _ _).trans (EX.append _ _)
  refine iniC ok hs (Nat.le_refl _) (by omega) ⟨ex, ?_, ?_⟩ ?_
  · have : (h1 ++ [IObj.gmap .str 0 []])[h1.length]? = some (.gmap .str 0 []) := get_last
    exact (EX.append _ _).get this
  · rw [n1]; exact get_last
  · intro l g s gd hi
    exact loopC ok (Nat.le_refl _) (by omega) hs s gd hi (fun q h' x => hno hc q h' (x1.trans x)) fun t r q h' x => hyes hc t r q h' (x1.trans x)

end Go.Proofs.YthplaillblmgfaaDoor


namespace Go.Proofs.YthplaillblmgfaaDoor
open Go.Sim
variable (P : Program) (K : VK)
/-! F4: pommel/pommellaw08.MarkFalling -/
noncomputable def c4z14 : ICode := .seq (.seq (.dops [(none, [⟨(some 31), .p (.mv (.tmp 8)), 0⟩,
 ⟨(some 32), .p (.bin .gtr (.tmp 31) (.const (.int .i64 (0)))), 1⟩,
 ⟨(some 33), .p (.mv (.tmp 32)), 3⟩]),
 ((some (33, true)), [⟨(some 34), .p (.mv (.tmp 6)), 7⟩,
 ⟨(some 35), .p (.mv (.tmp 8)), 7⟩,
 ⟨(some 36), .p (.bin .sub (.tmp 35) (.const (.int .i64 (1)))), 23⟩,
 ⟨(some 37), .p (.adrSl 1 (.tmp 34) (.tmp 36)), 63⟩,
 ⟨(some 38), .l (.load false 1 (.tmp 37)), 127⟩,
 ⟨(some 39), .p (.mv (.tmp 5)), 7⟩,
 ⟨(some 40), .p (.mv (.tmp 7)), 7⟩,
 ⟨(some 41), .p (.adrSl 1 (.tmp 39) (.tmp 40)), 775⟩,
 ⟨(some 42), .l (.load false 1 (.tmp 41)), 1799⟩,
 ⟨(some 43), .p (.bin .lss (.tmp 38) (.tmp 42)), 4095⟩]),
 (none, [⟨(some 44), .p (.pick (.tmp 33) (.tmp 43) (.const (.bool false))), 8191⟩])])
 (.cond (.tmp 44) (.skip)
 (.exit 2)))
 (.block 3 (.ops none [⟨(some 45), .p (.mv (.tmp 8))⟩,
 ⟨(some 46), .p (.bin .sub (.tmp 45) (.const (.int .i64 (1))))⟩,
 ⟨(some 8), .p (.mv (.tmp 46))⟩]))
noncomputable def c4z18 : ICode := .dops [(none, [⟨(some 47), .e (.fl (.mkSl 3 0 [(.int .i64 (0))] [])), 0⟩,
 ⟨(some 52), .p (.mv (.tmp 5)), 0⟩,
 ⟨(some 53), .p (.mv (.tmp 7)), 0⟩,
 ⟨(some 54), .p (.adrSl 1 (.tmp 52) (.tmp 53)), 6⟩,
 ⟨(some 55), .l (.load false 1 (.tmp 54)), 14⟩,
 ⟨(some 56), .e (.fl (.mkSl 3 1 [(.int .i64 (0))] [(0, 1, (.tmp 55))])), 30⟩,
 ⟨(some 48), .p (.mv (.tmp 6)), 0⟩,
 ⟨(some 49), .p (.mv (.tmp 8)), 0⟩,
 ⟨(some 50), .p (.slSl 3 1 (.tmp 48) none (some (.tmp 49))), 192⟩,
 ⟨(some 51), .e (.app 3 1 8 (.tmp 47) (.tmp 50)), 449⟩,
 ⟨(some 57), .e (.app 3 1 8 (.tmp 51) (.tmp 56)), 1023⟩,
 ⟨(some 58), .p (.mv (.tmp 6)), 0⟩,
 ⟨(some 59), .p (.mv (.tmp 8)), 0⟩,
 ⟨(some 60), .p (.slSl 3 1 (.tmp 58) (some (.tmp 59)) none), 6144⟩,
 ⟨(some 61), .e (.app 3 1 8 (.tmp 57) (.tmp 60)), 16383⟩,
 ⟨(some 6), .p (.mv (.tmp 61)), 32767⟩])]
noncomputable def c4z12 : ICode := .cut [1, 5, 6, 7, 8] c4z18
noncomputable def c4z19 : ICode := .ops none [⟨(some 27), .p (.mv (.tmp 7))⟩,
 ⟨(some 28), .p (.bin .add (.tmp 27) (.const (.int .i64 (1))))⟩,
 ⟨(some 7), .p (.mv (.tmp 28))⟩]
noncomputable def c4z9 : ICode := .cut [1, 5, 6, 7] c4z19
noncomputable def c4z6 : ICode := .seq (.seq (.ops none [⟨(some 23), .p (.mv (.tmp 7))⟩,
 ⟨(some 24), .p (.mv (.tmp 5))⟩,
 ⟨(some 25), .p (.lenSl (.tmp 24))⟩,
 ⟨(some 26), .p (.bin .lss (.tmp 23) (.tmp 25))⟩])
 (.cond (.tmp 26) (.skip)
 (.exit 0)))
 (.seq (.block 1 (.seq (.ops none [⟨(some 29), .p (.mv (.tmp 6))⟩,
 ⟨(some 30), .p (.lenSl (.tmp 29))⟩,
 ⟨(some 8), .p (.mv (.tmp 30))⟩])
 (.seq (.block 2 (.loop [1, 5, 6, 7] [8] c4z14)) c4z12))) c4z9)
noncomputable def c4z46 : ICode := .ops none [⟨(some 116), .p (.pick (.tmp 114) (.tmp 115) (.const (.bool false)))⟩,
 ⟨(some 4), .p (.mv (.tmp 116))⟩]
noncomputable def c4z44 : ICode := .seq (.ops (some (114, true)) [⟨(some 115), .call 13 []⟩])
 (.cut [114, 115] c4z46)
noncomputable def c4z42 : ICode := .seq (.ops none [⟨(some 113), .p (.pick (.tmp 109) (.tmp 112) (.const (.bool false)))⟩,
 ⟨(some 114), .p (.mv (.tmp 113))⟩])
 (.cut [114] c4z44)
noncomputable def c4z40 : ICode := .seq (.ops (some (109, true)) [⟨(some 110), .p (.mv (.tmp 12))⟩,
 ⟨(some 111), .p (.mv (.tmp 18))⟩,
 ⟨(some 112), .p (.bin .eql (.tmp 110) (.tmp 111))⟩])
 (.cut [109, 112] c4z42)
noncomputable def c4z38 : ICode := .seq (.ops none [⟨(some 108), .p (.pick (.tmp 104) (.tmp 107) (.const (.bool false)))⟩,
 ⟨(some 109), .p (.mv (.tmp 108))⟩])
 (.cut [12, 18, 109] c4z40)
noncomputable def c4z36 : ICode := .seq (.ops (some (104, true)) [⟨(some 105), .p (.mv (.tmp 12))⟩,
 ⟨(some 106), .p (.mv (.tmp 15))⟩,
 ⟨(some 107), .p (.bin .eql (.tmp 105) (.tmp 106))⟩])
 (.cut [12, 18, 104, 107] c4z38)
noncomputable def c4z34 : ICode := .seq (.ops none [⟨(some 103), .p (.pick (.tmp 100) (.tmp 102) (.const (.bool false)))⟩,
 ⟨(some 104), .p (.mv (.tmp 103))⟩])
 (.cut [12, 15, 18, 104] c4z36)
noncomputable def c4z32 : ICode := .seq (.ops (some (100, true)) [⟨(some 101), .p (.mv (.tmp 19))⟩,
 ⟨(some 102), .p (.bin .eql (.tmp 101) (.const (.int .i64 (0))))⟩])
 (.cut [12, 15, 18, 100, 102] c4z34)
noncomputable def c4z30 : ICode := .seq (.ops none [⟨(some 99), .p (.pick (.tmp 96) (.tmp 98) (.const (.bool false)))⟩,
 ⟨(some 100), .p (.mv (.tmp 99))⟩])
 (.cut [12, 15, 18, 19, 100] c4z32)
noncomputable def c4z28 : ICode := .seq (.ops (some (96, true)) [⟨(some 97), .p (.mv (.tmp 16))⟩,
 ⟨(some 98), .p (.bin .eql (.tmp 97) (.const (.int .i64 (0))))⟩])
 (.cut [12, 15, 18, 19, 96, 98] c4z30)
noncomputable def c4z26 : ICode := .ret
noncomputable def c4z20 : ICode := .seq (.ops none [⟨(some 62), .p (.mv (.tmp 1))⟩,
 ⟨(some 63), .p (.conv .i64 (.tmp 62))⟩,
 ⟨(some 64), .p (.mv (.tmp 5))⟩,
 ⟨(some 65), .p (.lenSl (.tmp 64))⟩,
 ⟨(some 66), .p (.bin .rem (.tmp 63) (.tmp 65))⟩,
 ⟨(some 9), .p (.mv (.tmp 66))⟩])
 (.seq (.dops [(none, [⟨(some 67), .e (.mkSl 3 0 [(.int .i64 (0))] []), 0⟩,
 ⟨(some 68), .p (.mv (.tmp 5)), 0⟩,
 ⟨(some 69), .p (.mv (.tmp 9)), 0⟩,
 ⟨(some 70), .p (.slSl 3 1 (.tmp 68) (some (.tmp 69)) none), 6⟩,
 ⟨(some 71), .e (.app 3 1 8 (.tmp 67) (.tmp 70)), 15⟩,
 ⟨(some 72), .p (.mv (.tmp 5)), 0⟩,
 ⟨(some 73), .p (.mv (.tmp 9)), 0⟩,
 ⟨(some 74), .p (.slSl 3 1 (.tmp 72) none (some (.tmp 73))), 96⟩,
 ⟨(some 75), .e (.app 3 1 8 (.tmp 71) (.tmp 74)), 255⟩,
 ⟨(some 10), .p (.mv (.tmp 75)), 511⟩])])
 (.seq (.ops none [⟨(some 77), .p (.mv (.tmp 6))⟩,
 ⟨(some 78), .call 10 [(.tmp 77)]⟩,
 ⟨(some 76), .p (.mv (.tmp 78))⟩,
 ⟨(some 79), .p (.ext (.tmp 76) 0)⟩,
 ⟨(some 80), .p (.ext (.tmp 76) 1)⟩,
 ⟨(some 81), .p (.ext (.tmp 76) 2)⟩,
 ⟨(some 11), .p (.mv (.tmp 79))⟩,
 ⟨(some 12), .p (.mv (.tmp 80))⟩,
 ⟨(some 13), .p (.mv (.tmp 81))⟩])
 (.seq (.ops none [⟨(some 83), .p (.mv (.tmp 6))⟩,
 ⟨(some 84), .call 11 [(.tmp 83)]⟩,
 ⟨(some 82), .p (.mv (.tmp 84))⟩,
 ⟨(some 85), .p (.ext (.tmp 82) 0)⟩,
 ⟨(some 86), .p (.ext (.tmp 82) 1)⟩,
 ⟨(some 87), .p (.ext (.tmp 82) 2)⟩,
 ⟨(some 14), .p (.mv (.tmp 85))⟩,
 ⟨(some 15), .p (.mv (.tmp 86))⟩,
 ⟨(some 16), .p (.mv (.tmp 87))⟩])
 (.seq (.ops none [⟨(some 89), .p (.mv (.tmp 10))⟩,
 ⟨(some 90), .call 10 [(.tmp 89)]⟩,
 ⟨(some 88), .p (.mv (.tmp 90))⟩,
 ⟨(some 91), .p (.ext (.tmp 88) 0)⟩,
 ⟨(some 92), .p (.ext (.tmp 88) 1)⟩,
 ⟨(some 93), .p (.ext (.tmp 88) 2)⟩,
 ⟨(some 17), .p (.mv (.tmp 91))⟩,
 ⟨(some 18), .p (.mv (.tmp 92))⟩,
 ⟨(some 19), .p (.mv (.tmp 93))⟩])
 (.seq (.seq (.ops none [⟨(some 94), .p (.mv (.tmp 13))⟩,
 ⟨(some 95), .p (.bin .eql (.tmp 94) (.const (.int .i64 (0))))⟩,
 ⟨(some 96), .p (.mv (.tmp 95))⟩])
 (.cut [12, 15, 16, 18, 19, 96] c4z28)) c4z26)))))
noncomputable def c4z3 : ICode := .cut [1, 5, 6] c4z20
noncomputable def c4 : ICode := .seq (.ops none [⟨(some 4), .p (.mv (.const (.bool false)))⟩])
 (.seq (.ops none [⟨(some 20), .p (.mv (.tmp 0))⟩,
 ⟨(some 21), .call 16 [(.tmp 20)]⟩,
 ⟨(some 22), .e (.mkSl 3 0 [(.int .i64 (0))] [])⟩,
 ⟨(some 5), .p (.mv (.tmp 21))⟩,
 ⟨(some 6), .p (.mv (.tmp 22))⟩])
 (.seq (.seq (.ops none [⟨(some 7), .p (.mv (.const (.int .i64 (0))))⟩])
 (.block 0 (.loop [1, 5] [6, 7] c4z6))) c4z3))
theorem k4 : compFn Tryd.prog 4 [[], [], [], [1, 5], [6, 7], [], [], [], [1, 5, 6, 7], [8], [], [], [1, 5, 6, 7, 8], [1, 5, 6, 7], [1, 5, 6], [], [], [], [], [], [12, 15, 16, 18, 19, 96], [12, 15, 18, 19, 96, 98], [12, 15, 18, 19, 100], [12, 15, 18, 100, 102], [12, 15, 18, 104], [12, 18, 104, 107], [12, 18, 109], [109, 112], [114], [114, 115], []] = some (117, c4, [.tmp 4]) := by kernel_rfl
def K4z0 (_P : Program) (K : VK) : Kont := bodyP [.tmp 4] K
def K4z3 : Kont := thenK (iwpP P c4z3 (K4z0 P K)) (K4z0 P K)
def K4z5 : Kont := inBlockK 0 (K4z3 P K)
def K4z6 (by1 w5 : Value) (L1 : LK) : Kont := thenK (fun f' h'' => (([1, 5] : List Nat).map f' : List Value) = [by1, w5] ∧ L1 (([6, 7] : List Nat).map f') h'') (K4z5 P K)
def p4z6 (by1 w5 : Value) (L1 : LK) (xs : List Value) (h : Heap) : Prop := CutP (iwpP P c4z6 (K4z6 P K by1 w5 L1)) ([1, 5] ++ [6, 7]) ([by1, w5] ++ xs) h
def T4 (x0 by1 : Value) (h : Heap) : Prop :=
 CallP P 16 [x0] h fun x21 h_1 =>
 OH (iMkSl 3 0 [(.int .i64 (0))] h_1 []) fun x22 h_2 =>
 LoopP [x22, (.int .i64 (0))] h_2 fun L1 xs hx =>
 p4z6 P K by1 x21 L1 xs hx
theorem e4 (x0 by1 : Value) (h : Heap) : iwpP P c4 (bodyP [.tmp 4] K) (frame0 [x0, by1]) h = T4 P K x0 by1 h := by kernel_rfl
theorem f4 {K : VK} {x0 by1 : Value} {h : Heap} (H : T4 Tryd.prog K x0 by1 h) : CallP Tryd.prog 4 [x0, by1] h K :=
 callP_intro k4 (Nat.le_of_ble_eq_true rfl) ((e4 Tryd.prog K x0 by1 h).mpr H)
/-! F16: pommel/pommellaw08.weights -/
end Go.Proofs.YthplaillblmgfaaDoor

namespace Go.Proofs.YthplaillblmgfaaDoor
open Go.Sim
variable (P : Program) (K : VK)
/-! F24: pommel/mark.Plain -/
/-! F25: pommel/mark.Rising -/
/-! F43: pommel/mark.lengthy -/
/-! F46: pommel/mark.written -/
end Go.Proofs.YthplaillblmgfaaDoor

namespace Go.Sim

def val (B : Nat) : List Nat → Nat
  | [] => 0
  | d :: ds => d + B * val B ds

def Lim (B : Nat) (xs : List Nat) : Prop := ∀ x ∈ xs, x < B
/-- Digits, and no 0 at the end. -/
def Canon (B : Nat) (xs : List Nat) : Prop := Lim B xs ∧ xs.getLast? ≠ some 0

theorem Lim.mono {B : Nat} {xs ys : List Nat} (h : Lim B xs) (hs : ∀ y ∈ ys, y ∈ xs) : Lim B ys := fun y hy => h y (hs y hy)
theorem Lim.append {B : Nat} {xs ys : List Nat} (h : Lim B xs) (k : Lim B ys) : Lim B (xs ++ ys) := fun y hy => (List.mem_append.1 hy).elim (h y) (k y)
theorem Lim.set {B : Nat} {xs : List Nat} (h : Lim B xs) {d : Nat} (hd : d < B) (i : Nat) : Lim B (xs.set i d) := fun y hy => by
  rcases List.mem_or_eq_of_mem_set hy with h1 | h1
  · exact h y h1
  · rw [h1]; exact hd
theorem Canon.cons {B : Nat} {x : Nat} {xs : List Nat} (h : Canon B (x :: xs)) : x < B ∧ Canon B xs ∧ (xs = [] → x ≠ 0) := by
  refine ⟨h.1 x (by simp), ⟨fun y hy => h.1 y (by simp [hy]), ?_⟩, ?_⟩
  · intro hl
    apply h.2
    cases xs with
    | nil => simp at hl
    | cons y ys => simpa [List.getLast?_cons_cons] using hl
  · rintro rfl rfl
    exact h.2 rfl

theorem Canon.zero {B : Nat} (hB : 0 < B) : ∀ {xs : List Nat}, Canon B xs → val B xs = 0 → xs = []
  | [], _, _ => rfl
  | x :: xs, h, h0 => by
    obtain ⟨_, h2, h3⟩ := h.cons
    simp only [val] at h0
    have hx : x = 0 := by omega
    have hv : B * val B xs = 0 := by omega
    have : val B xs = 0 := by
      rcases Nat.mul_eq_zero.1 hv with h | h
      · omega
      · exact h
    exact absurd hx (h3 (Canon.zero hB h2 this))

theorem Canon.low {B : Nat} (hB : 0 < B) : ∀ {xs : List Nat}, Canon B xs → xs ≠ [] → B ^ (xs.length - 1) ≤ val B xs
  | [x], h, _ => by
    have := h.cons.2.2 rfl
    simp [val]
    omega
  | x :: y :: xs, h, _ => by
    have ih := Canon.low hB h.cons.2.1 (by simp)
    simp only [List.length_cons, Nat.add_sub_cancel] at ih ⊢
    rw [show val B (x :: y :: xs) = x + B * val B (y :: xs) from rfl, Nat.pow_succ]
    have : B * B ^ xs.length ≤ B * val B (y :: xs) := Nat.mul_le_mul_left _ ih
    rw [Nat.mul_comm (B ^ xs.length)]
    omega

theorem Canon.len {B k : Nat} (hB : 1 < B) {xs : List Nat} (h : Canon B xs) (hv : val B xs < B ^ k) : xs.length ≤ k := by
  by_cases hx : xs = []
  · subst hx; simp
  · have h1 := Canon.low (by omega) h hx
    have h2 : B ^ (xs.length - 1) < B ^ k := Nat.lt_of_le_of_lt h1 hv
    have := (Nat.pow_lt_pow_iff_right hB).1 h2
    have : 0 < xs.length := List.length_pos_iff.2 hx
    omega

theorem Canon.nil (B : Nat) : Canon B [] := ⟨fun x hx => by simp at hx, by simp⟩

end Go.Sim


namespace Go.Sim

/-- The kinds that sets have. -/
def SK (k : IntKind) : Prop := k = .u16 ∨ k = .i64

theorem SK.wrap {k : IntKind} (hk : SK k) {n : Int} (h0 : 0 ≤ n) (h1 : n < 32768) : k.wrap n = n := by
  rcases hk with rfl | rfl
  · have e : IntKind.wrap .u16 n = n % 65536 := by simp [IntKind.wrap, IntKind.bits, IntKind.signed]
    rw [e]; omega
  · exact wrap64 (by omega) (by omega)

theorem SK.bits {k : IntKind} (hk : SK k) : 16 ≤ k.bits := by
  rcases hk with rfl | rfl <;> decide

theorem SK.toNat {k : IntKind} (hk : SK k) {a : Nat} (ha : a < 1024) : (BitVec.ofInt k.bits (a : Int)).toNat = a := by
  have h := hk.bits
  have h2 : (2 : Nat) ^ 16 ≤ 2 ^ k.bits := Nat.pow_le_pow_right (by decide) h
  rw [BitVec.toNat_ofInt]
  have h3 : ((2 ^ k.bits : Nat) : Int) = 2 ^ k.bits := by simp
  rw [Int.emod_eq_of_lt (by omega) (by omega)]
  omega

end Go.Sim


namespace Go.Proofs.YthplaillblmgfaaDoor
open Go.Sim
variable (P : Program) (K : VK)
/-! F7: pommel/pommellaw08.MarkHuffman -/
noncomputable def c7z34 : ICode := .ops none [⟨(some 71), .p (.pick (.tmp 68) (.const (.bool true)) (.tmp 70))⟩]
noncomputable def c7z32 : ICode := .seq (.ops (some (68, false)) [⟨(some 69), .call 13 []⟩,
 ⟨(some 70), .p (.un .not (.tmp 69))⟩])
 (.cut [3, 4, 5, 7, 8, 68, 70] c7z34)
noncomputable def c7z30 : ICode := .seq (.ops none [⟨(some 67), .p (.pick (.tmp 63) (.const (.bool true)) (.tmp 66))⟩,
 ⟨(some 68), .p (.mv (.tmp 67))⟩])
 (.cut [3, 4, 5, 7, 8, 68] c7z32)
noncomputable def c7z28 : ICode := .seq (.ops (some (63, false)) [⟨(some 64), .p (.mv (.tmp 7))⟩,
 ⟨(some 65), .call 12 [(.tmp 64), (.const (.int .i64 (1))), (.const (.int .i64 (1))), (.const (.int .i64 (10)))]⟩,
 ⟨(some 66), .p (.bin .neq (.tmp 65) (.const (.int .i64 (0))))⟩])
 (.cut [3, 4, 5, 7, 8, 63, 66] c7z30)
noncomputable def c7z26 : ICode := .seq (.ops none [⟨(some 62), .p (.pick (.tmp 58) (.const (.bool true)) (.tmp 61))⟩,
 ⟨(some 63), .p (.mv (.tmp 62))⟩])
 (.cut [3, 4, 5, 7, 8, 63] c7z28)
noncomputable def c7z24 : ICode := .seq (.ops (some (58, false)) [⟨(some 59), .p (.mv (.tmp 4))⟩,
 ⟨(some 60), .call 12 [(.tmp 59), (.const (.int .i64 (1))), (.const (.int .i64 (1))), (.const (.int .i64 (10)))]⟩,
 ⟨(some 61), .p (.bin .neq (.tmp 60) (.const (.int .i64 (0))))⟩])
 (.cut [3, 4, 5, 7, 8, 58, 61] c7z26)
noncomputable def c7z22 : ICode := .seq (.ops none [⟨(some 57), .p (.pick (.tmp 53) (.const (.bool true)) (.tmp 56))⟩,
 ⟨(some 58), .p (.mv (.tmp 57))⟩])
 (.cut [3, 4, 5, 7, 8, 58] c7z24)
noncomputable def c7z20 : ICode := .seq (.ops (some (53, false)) [⟨(some 54), .p (.mv (.tmp 5))⟩,
 ⟨(some 55), .p (.mv (.tmp 8))⟩,
 ⟨(some 56), .p (.bin .gtr (.tmp 54) (.tmp 55))⟩])
 (.cut [3, 4, 5, 7, 8, 53, 56] c7z22)
noncomputable def c7z18 : ICode := .seq (.ops none [⟨(some 52), .p (.pick (.tmp 46) (.const (.bool true)) (.tmp 51))⟩,
 ⟨(some 53), .p (.mv (.tmp 52))⟩])
 (.cut [3, 4, 5, 7, 8, 53] c7z20)
noncomputable def c7z16 : ICode := .seq (.ops (some (46, false)) [⟨(some 47), .p (.mv (.tmp 7))⟩,
 ⟨(some 48), .p (.lenSl (.tmp 47))⟩,
 ⟨(some 49), .p (.mv (.tmp 3))⟩,
 ⟨(some 50), .p (.lenSl (.tmp 49))⟩,
 ⟨(some 51), .p (.bin .neq (.tmp 48) (.tmp 50))⟩])
 (.cut [3, 4, 5, 7, 8, 46, 51] c7z18)
noncomputable def c7z14 : ICode := .seq (.ops none [⟨(some 45), .p (.pick (.tmp 39) (.const (.bool true)) (.tmp 44))⟩,
 ⟨(some 46), .p (.mv (.tmp 45))⟩])
 (.cut [3, 4, 5, 7, 8, 46] c7z16)
noncomputable def c7z12 : ICode := .seq (.ops (some (39, false)) [⟨(some 40), .p (.mv (.tmp 4))⟩,
 ⟨(some 41), .p (.lenSl (.tmp 40))⟩,
 ⟨(some 42), .p (.mv (.tmp 3))⟩,
 ⟨(some 43), .p (.lenSl (.tmp 42))⟩,
 ⟨(some 44), .p (.bin .neq (.tmp 41) (.tmp 43))⟩])
 (.cut [3, 4, 5, 7, 8, 39, 44] c7z14)
noncomputable def c7z10 : ICode := .seq (.ops none [⟨(some 38), .p (.pick (.tmp 35) (.const (.bool true)) (.tmp 37))⟩,
 ⟨(some 39), .p (.mv (.tmp 38))⟩])
 (.cut [3, 4, 5, 7, 8, 39] c7z12)
noncomputable def c7z8 : ICode := .seq (.ops (some (35, false)) [⟨(some 36), .p (.mv (.tmp 9))⟩,
 ⟨(some 37), .p (.bin .neq (.tmp 36) (.const (.int .i64 (0))))⟩])
 (.cut [3, 4, 5, 7, 8, 35, 37] c7z10)
noncomputable def c7z6 : ICode := .cond (.tmp 71) (.seq (.ops none [⟨(some 2), .p (.mv (.const (.bool false)))⟩])
 (.ret))
 (.skip)
noncomputable def c7z40 : ICode := .seq (.seq (.ops none [⟨(some 72), .p (.mv (.tmp 14))⟩,
 ⟨(some 73), .p (.mv (.tmp 3))⟩,
 ⟨(some 74), .p (.lenSl (.tmp 73))⟩,
 ⟨(some 75), .p (.bin .lss (.tmp 72) (.tmp 74))⟩])
 (.cond (.tmp 75) (.skip)
 (.exit 0)))
 (.seq (.block 1 (.dops [(none, [⟨(some 78), .p (.mv (.tmp 10)), 0⟩,
 ⟨(some 79), .p (.mv (.tmp 3)), 0⟩,
 ⟨(some 80), .p (.mv (.tmp 14)), 0⟩,
 ⟨(some 81), .p (.adrSl 1 (.tmp 79) (.tmp 80)), 6⟩,
 ⟨(some 82), .l (.load false 1 (.tmp 81)), 14⟩,
 ⟨(some 83), .p (.bin .add (.tmp 78) (.tmp 82)), 31⟩,
 ⟨(some 84), .p (.mv (.tmp 11)), 0⟩,
 ⟨(some 85), .p (.mv (.tmp 3)), 0⟩,
 ⟨(some 86), .p (.mv (.tmp 14)), 0⟩,
 ⟨(some 87), .p (.adrSl 1 (.tmp 85) (.tmp 86)), 384⟩,
 ⟨(some 88), .l (.load false 1 (.tmp 87)), 896⟩,
 ⟨(some 89), .p (.mv (.tmp 4)), 0⟩,
 ⟨(some 90), .p (.mv (.tmp 14)), 0⟩,
 ⟨(some 91), .p (.adrSl 1 (.tmp 89) (.tmp 90)), 6144⟩,
 ⟨(some 92), .l (.load false 1 (.tmp 91)), 14336⟩,
 ⟨(some 93), .p (.bin .mul (.tmp 88) (.tmp 92)), 32640⟩,
 ⟨(some 94), .p (.bin .add (.tmp 84) (.tmp 93)), 65472⟩,
 ⟨(some 95), .p (.mv (.tmp 12)), 0⟩,
 ⟨(some 96), .p (.mv (.tmp 3)), 0⟩,
 ⟨(some 97), .p (.mv (.tmp 14)), 0⟩,
 ⟨(some 98), .p (.adrSl 1 (.tmp 96) (.tmp 97)), 786432⟩,
 ⟨(some 99), .l (.load false 1 (.tmp 98)), 1835008⟩,
 ⟨(some 100), .p (.mv (.tmp 7)), 0⟩,
 ⟨(some 101), .p (.mv (.tmp 14)), 0⟩,
 ⟨(some 102), .p (.adrSl 1 (.tmp 100) (.tmp 101)), 12582912⟩,
 ⟨(some 103), .l (.load false 1 (.tmp 102)), 29360128⟩,
 ⟨(some 104), .p (.bin .mul (.tmp 99) (.tmp 103)), 66846720⟩,
 ⟨(some 105), .p (.bin .add (.tmp 95) (.tmp 104)), 134086656⟩,
 ⟨(some 106), .p (.mv (.tmp 13)), 0⟩,
 ⟨(some 107), .p (.mv (.tmp 4)), 0⟩,
 ⟨(some 108), .p (.mv (.tmp 14)), 0⟩,
 ⟨(some 109), .p (.adrSl 1 (.tmp 107) (.tmp 108)), 1610612736⟩,
 ⟨(some 110), .l (.load false 1 (.tmp 109)), 3758096384⟩,
 ⟨(some 111), .p (.minmax true [(.tmp 106), (.tmp 110)]), 8321499136⟩,
 ⟨(some 10), .p (.mv (.tmp 83)), 63⟩,
 ⟨(some 11), .p (.mv (.tmp 94)), 17180000255⟩,
 ⟨(some 12), .p (.mv (.tmp 105)), 51808043007⟩,
 ⟨(some 13), .p (.mv (.tmp 111)), 137438953471⟩])]))
 (.ops none [⟨(some 76), .p (.mv (.tmp 14))⟩,
 ⟨(some 77), .p (.bin .add (.tmp 76) (.const (.int .i64 (1))))⟩,
 ⟨(some 14), .p (.mv (.tmp 77))⟩]))
noncomputable def c7z68 : ICode := .ops none [⟨(some 148), .p (.pick (.tmp 145) (.tmp 147) (.const (.bool false)))⟩,
 ⟨(some 2), .p (.mv (.tmp 148))⟩]
noncomputable def c7z66 : ICode := .seq (.ops (some (145, true)) [⟨(some 146), .p (.mv (.tmp 18))⟩,
 ⟨(some 147), .p (.bin .eql (.tmp 146) (.const (.int .i64 (0))))⟩])
 (.cut [145, 147] c7z68)
noncomputable def c7z64 : ICode := .seq (.ops none [⟨(some 144), .p (.pick (.tmp 141) (.tmp 143) (.const (.bool false)))⟩,
 ⟨(some 145), .p (.mv (.tmp 144))⟩])
 (.cut [18, 145] c7z66)
noncomputable def c7z62 : ICode := .seq (.ops (some (141, true)) [⟨(some 142), .p (.mv (.tmp 16))⟩,
 ⟨(some 143), .p (.bin .eql (.tmp 142) (.const (.int .i64 (0))))⟩])
 (.cut [18, 141, 143] c7z64)
noncomputable def c7z60 : ICode := .seq (.ops none [⟨(some 140), .p (.pick (.tmp 130) (.tmp 139) (.const (.bool false)))⟩,
 ⟨(some 141), .p (.mv (.tmp 140))⟩])
 (.cut [16, 18, 141] c7z62)
noncomputable def c7z58 : ICode := .seq (.ops (some (130, true)) [⟨(some 139), .p (.pick (.tmp 133) (.const (.bool true)) (.tmp 138))⟩])
 (.cut [16, 18, 130, 139] c7z60)
noncomputable def c7z56 : ICode := .seq (.ops (some (133, false)) [⟨(some 134), .p (.mv (.tmp 8))⟩,
 ⟨(some 135), .p (.mv (.tmp 5))⟩,
 ⟨(some 136), .p (.mv (.tmp 10))⟩,
 ⟨(some 137), .p (.bin .add (.tmp 135) (.tmp 136))⟩,
 ⟨(some 138), .p (.bin .leq (.tmp 134) (.tmp 137))⟩])
 (.cut [16, 18, 130, 133, 138] c7z58)
noncomputable def c7z54 : ICode := .seq (.ops (some (130, true)) [⟨(some 131), .p (.mv (.tmp 13))⟩,
 ⟨(some 132), .p (.bin .eql (.tmp 131) (.const (.int .i64 (10))))⟩,
 ⟨(some 133), .p (.mv (.tmp 132))⟩])
 (.cut [5, 8, 10, 16, 18, 130, 133] c7z56)
noncomputable def c7z52 : ICode := .seq (.ops none [⟨(some 129), .p (.pick (.tmp 125) (.tmp 128) (.const (.bool false)))⟩,
 ⟨(some 130), .p (.mv (.tmp 129))⟩])
 (.cut [5, 8, 10, 13, 16, 18, 130] c7z54)
noncomputable def c7z50 : ICode := .seq (.ops (some (125, true)) [⟨(some 126), .p (.mv (.tmp 12))⟩,
 ⟨(some 127), .p (.mv (.tmp 8))⟩,
 ⟨(some 128), .p (.bin .eql (.tmp 126) (.tmp 127))⟩])
 (.cut [5, 8, 10, 13, 16, 18, 125, 128] c7z52)
noncomputable def c7z48 : ICode := .ret
noncomputable def c7z45 : ICode := .seq (.ops none [⟨(some 113), .p (.mv (.tmp 4))⟩,
 ⟨(some 114), .call 24 [(.tmp 113)]⟩,
 ⟨(some 112), .p (.mv (.tmp 114))⟩,
 ⟨(some 115), .p (.ext (.tmp 112) 0)⟩,
 ⟨(some 116), .p (.ext (.tmp 112) 1)⟩,
 ⟨(some 15), .p (.mv (.tmp 115))⟩,
 ⟨(some 16), .p (.mv (.tmp 116))⟩])
 (.seq (.ops none [⟨(some 118), .p (.mv (.tmp 7))⟩,
 ⟨(some 119), .call 25 [(.tmp 118)]⟩,
 ⟨(some 117), .p (.mv (.tmp 119))⟩,
 ⟨(some 120), .p (.ext (.tmp 117) 0)⟩,
 ⟨(some 121), .p (.ext (.tmp 117) 1)⟩,
 ⟨(some 17), .p (.mv (.tmp 120))⟩,
 ⟨(some 18), .p (.mv (.tmp 121))⟩])
 (.seq (.seq (.ops none [⟨(some 122), .p (.mv (.tmp 11))⟩,
 ⟨(some 123), .p (.mv (.tmp 5))⟩,
 ⟨(some 124), .p (.bin .eql (.tmp 122) (.tmp 123))⟩,
 ⟨(some 125), .p (.mv (.tmp 124))⟩])
 (.cut [5, 8, 10, 12, 13, 16, 18, 125] c7z50)) c7z48))
noncomputable def c7z37 : ICode := .cut [4, 5, 7, 8, 10, 11, 12, 13] c7z45
noncomputable def c7z5 : ICode := .seq (.ops none [⟨(some 10), .p (.mv (.const (.int .i64 (0))))⟩,
 ⟨(some 11), .p (.mv (.const (.int .i64 (0))))⟩,
 ⟨(some 12), .p (.mv (.const (.int .i64 (0))))⟩,
 ⟨(some 13), .p (.mv (.const (.int .i64 (0))))⟩])
 (.seq (.seq (.ops none [⟨(some 14), .p (.mv (.const (.int .i64 (0))))⟩])
 (.block 0 (.loop [3, 4, 5, 7, 8] [10, 11, 12, 13, 14] c7z40))) c7z37)
noncomputable def c7 : ICode := .seq (.ops none [⟨(some 2), .p (.mv (.const (.bool false)))⟩])
 (.seq (.ops none [⟨(some 19), .p (.mv (.tmp 0))⟩,
 ⟨(some 20), .call 16 [(.tmp 19)]⟩,
 ⟨(some 3), .p (.mv (.tmp 20))⟩])
 (.seq (.ops none [⟨(some 22), .p (.mv (.tmp 3))⟩,
 ⟨(some 23), .call 10 [(.tmp 22)]⟩,
 ⟨(some 21), .p (.mv (.tmp 23))⟩,
 ⟨(some 24), .p (.ext (.tmp 21) 0)⟩,
 ⟨(some 25), .p (.ext (.tmp 21) 1)⟩,
 ⟨(some 26), .p (.ext (.tmp 21) 2)⟩,
 ⟨(some 4), .p (.mv (.tmp 24))⟩,
 ⟨(some 5), .p (.mv (.tmp 25))⟩,
 ⟨(some 6), .p (.mv (.tmp 26))⟩])
 (.seq (.ops none [⟨(some 28), .p (.mv (.tmp 3))⟩,
 ⟨(some 29), .call 11 [(.tmp 28)]⟩,
 ⟨(some 27), .p (.mv (.tmp 29))⟩,
 ⟨(some 30), .p (.ext (.tmp 27) 0)⟩,
 ⟨(some 31), .p (.ext (.tmp 27) 1)⟩,
 ⟨(some 32), .p (.ext (.tmp 27) 2)⟩,
 ⟨(some 7), .p (.mv (.tmp 30))⟩,
 ⟨(some 8), .p (.mv (.tmp 31))⟩,
 ⟨(some 9), .p (.mv (.tmp 32))⟩])
 (.seq (.seq (.seq (.ops none [⟨(some 33), .p (.mv (.tmp 6))⟩,
 ⟨(some 34), .p (.bin .neq (.tmp 33) (.const (.int .i64 (0))))⟩,
 ⟨(some 35), .p (.mv (.tmp 34))⟩])
 (.cut [3, 4, 5, 7, 8, 9, 35] c7z8)) c7z6) c7z5))))
theorem k7 : compFn Tryd.prog 7 [[], [], [], [], [3, 4, 5, 7, 8, 9, 35], [3, 4, 5, 7, 8, 35, 37], [3, 4, 5, 7, 8, 39], [3, 4, 5, 7, 8, 39, 44], [3, 4, 5, 7, 8, 46], [3, 4, 5, 7, 8, 46, 51], [3, 4, 5, 7, 8, 53], [3, 4, 5, 7, 8, 53, 56], [3, 4, 5, 7, 8, 58], [3, 4, 5, 7, 8, 58, 61], [3, 4, 5, 7, 8, 63], [3, 4, 5, 7, 8, 63, 66], [3, 4, 5, 7, 8, 68], [3, 4, 5, 7, 8, 68, 70], [], [], [], [], [], [3, 4, 5, 7, 8], [10, 11, 12, 13, 14], [], [], [], [4, 5, 7, 8, 10, 11, 12, 13], [], [], [5, 8, 10, 12, 13, 16, 18, 125], [5, 8, 10, 13, 16, 18, 125, 128], [5, 8, 10, 13, 16, 18, 130], [5, 8, 10, 16, 18, 130, 133], [16, 18, 130, 133, 138], [16, 18, 130, 139], [16, 18, 141], [18, 141, 143], [18, 145], [145, 147], []] = some (149, c7, [.tmp 2]) := by kernel_rfl
def K7z0 (_P : Program) (K : VK) : Kont := bodyP [.tmp 2] K
def K7z5 : Kont := thenK (iwpP P c7z5 (K7z0 P K)) (K7z0 P K)
def K7z6 : Kont := thenK (iwpP P c7z6 (K7z5 P K)) (K7z5 P K)
def p7z8 (w3 l4 c5 m7 d8 f9 x35 : Value) (h : Heap) : Prop := CutP (iwpP P c7z8 (K7z6 P K)) [3, 4, 5, 7, 8, 9, 35] [w3, l4, c5, m7, d8, f9, x35] h
def T7 (x0 : Value) (h : Heap) : Prop :=
 CallP P 16 [x0] h fun x20 h_1 =>
 CallP P 10 [x20] h_1 fun x23 h_2 =>
 OP (iExt 0 x23) fun x24 =>
 OP (iExt 1 x23) fun x25 =>
 OP (iExt 2 x23) fun x26 =>
 CallP P 11 [x20] h_2 fun x29 h_3 =>
 OP (iExt 0 x29) fun x30 =>
 OP (iExt 1 x29) fun x31 =>
 OP (iExt 2 x29) fun x32 =>
 OP (iBin .neq x26 (.int .i64 (0))) fun x34 =>
 p7z8 P K x20 x24 x25 x30 x31 x32 x34 h_3
theorem e7 (x0 : Value) (h : Heap) : iwpP P c7 (bodyP [.tmp 2] K) (frame0 [x0]) h = T7 P K x0 h := by kernel_rfl
theorem f7 {K : VK} {x0 : Value} {h : Heap} (H : T7 Tryd.prog K x0 h) : CallP Tryd.prog 7 [x0] h K :=
 callP_intro k7 (Nat.le_of_ble_eq_true rfl) ((e7 Tryd.prog K x0 h).mpr H)
end Go.Proofs.YthplaillblmgfaaDoor

namespace Go.Proofs.YthplaillblmgfaaDoor
open Go.Sim

theorem INS.at {h : Heap} {e : TypeId} {k : IntKind} {v : Value} {ns : List Int} (p : INS h e k v ns) {i : Nat} (hi : i < ns.length) : ∃ b o, iAdrSl 1 v (I i) = some (pt b o) ∧ iLoad false 1 h (pt b o) = some (.int k ns[i]) := by
  rcases p.2 with ⟨_, h0⟩ | ⟨j, rfl, hc⟩
  · omega
  · have hc := hc.resolve_left (by omega)
    exact ⟨j, i, adr_sl hi, by simp [iLoad, hc, iPart, hi]⟩

end Go.Proofs.YthplaillblmgfaaDoor


namespace Go.Proofs.YthplaillblmgfaaDoor
open Go.Sim
variable (P : Program) (K : VK)
/-! F5: pommel/pommellaw08.MarkTurned -/
noncomputable def c5z15 : ICode := .seq (.seq (.ops none [⟨(some 27), .p (.mv (.tmp 7))⟩,
 ⟨(some 28), .p (.bin .geq (.tmp 27) (.const (.int .i64 (0))))⟩])
 (.cond (.tmp 28) (.skip)
 (.exit 2)))
 (.seq (.block 3 (.ops none [⟨(some 31), .p (.mv (.tmp 6))⟩,
 ⟨(some 32), .p (.mv (.tmp 3))⟩,
 ⟨(some 33), .p (.mv (.tmp 5))⟩,
 ⟨(some 34), .p (.adrSl 1 (.tmp 32) (.tmp 33))⟩,
 ⟨(some 35), .l (.load false 1 (.tmp 34))⟩,
 ⟨(some 36), .p (.mv (.tmp 7))⟩,
 ⟨(some 37), .p (.mv (.tmp 7))⟩,
 ⟨(some 38), .p (.bin .add (.tmp 37) (.const (.int .i64 (1))))⟩,
 ⟨(some 39), .p (.slS (.tmp 35) (some (.tmp 36)) (some (.tmp 38)))⟩,
 ⟨(some 40), .p (.bin .add (.tmp 31) (.tmp 39))⟩,
 ⟨(some 6), .p (.mv (.tmp 40))⟩]))
 (.ops none [⟨(some 29), .p (.mv (.tmp 7))⟩,
 ⟨(some 30), .p (.bin .sub (.tmp 29) (.const (.int .i64 (1))))⟩,
 ⟨(some 7), .p (.mv (.tmp 30))⟩]))
noncomputable def c5z20 : ICode := .ops none [⟨(some 41), .p (.mv (.tmp 4))⟩,
 ⟨(some 42), .p (.mv (.tmp 6))⟩,
 ⟨(some 43), .e (.mkSl 9 1 [(.string ⟨#[]⟩)] [(0, 1, (.tmp 42))])⟩,
 ⟨(some 44), .e (.app 9 1 16 (.tmp 41) (.tmp 43))⟩,
 ⟨(some 4), .p (.mv (.tmp 44))⟩]
noncomputable def c5z12 : ICode := .cut [3, 4, 5, 6] c5z20
noncomputable def c5z21 : ICode := .ops none [⟨(some 19), .p (.mv (.tmp 5))⟩,
 ⟨(some 20), .p (.bin .add (.tmp 19) (.const (.int .i64 (1))))⟩,
 ⟨(some 5), .p (.mv (.tmp 20))⟩]
noncomputable def c5z9 : ICode := .cut [3, 4, 5] c5z21
noncomputable def c5z6 : ICode := .seq (.seq (.ops none [⟨(some 15), .p (.mv (.tmp 5))⟩,
 ⟨(some 16), .p (.mv (.tmp 3))⟩,
 ⟨(some 17), .p (.lenSl (.tmp 16))⟩,
 ⟨(some 18), .p (.bin .lss (.tmp 15) (.tmp 17))⟩])
 (.cond (.tmp 18) (.skip)
 (.exit 0)))
 (.seq (.block 1 (.seq (.ops none [⟨(some 6), .p (.mv (.const (.string ⟨#[]⟩)))⟩])
 (.seq (.seq (.ops none [⟨(some 21), .p (.mv (.tmp 3))⟩,
 ⟨(some 22), .p (.mv (.tmp 5))⟩,
 ⟨(some 23), .p (.adrSl 1 (.tmp 21) (.tmp 22))⟩,
 ⟨(some 24), .l (.load false 1 (.tmp 23))⟩,
 ⟨(some 25), .p (.lenS (.tmp 24))⟩,
 ⟨(some 26), .p (.bin .sub (.tmp 25) (.const (.int .i64 (1))))⟩,
 ⟨(some 7), .p (.mv (.tmp 26))⟩])
 (.block 2 (.loop [3, 4, 5] [6, 7] c5z15))) c5z12))) c5z9)
noncomputable def c5z41 : ICode := .ops none [⟨(some 75), .p (.pick (.tmp 73) (.tmp 74) (.const (.bool false)))⟩,
 ⟨(some 2), .p (.mv (.tmp 75))⟩]
noncomputable def c5z39 : ICode := .seq (.ops (some (73, true)) [⟨(some 74), .call 13 []⟩])
 (.cut [73, 74] c5z41)
noncomputable def c5z37 : ICode := .seq (.ops none [⟨(some 72), .p (.pick (.tmp 65) (.tmp 71) (.const (.bool false)))⟩,
 ⟨(some 73), .p (.mv (.tmp 72))⟩])
 (.cut [73] c5z39)
noncomputable def c5z35 : ICode := .seq (.ops (some (65, true)) [⟨(some 71), .p (.pick (.tmp 68) (.const (.bool true)) (.tmp 70))⟩])
 (.cut [65, 71] c5z37)
noncomputable def c5z33 : ICode := .seq (.ops (some (68, false)) [⟨(some 69), .p (.mv (.tmp 9))⟩,
 ⟨(some 70), .p (.bin .eql (.tmp 69) (.const (.int .i64 (5))))⟩])
 (.cut [65, 68, 70] c5z35)
noncomputable def c5z31 : ICode := .seq (.ops (some (65, true)) [⟨(some 66), .p (.mv (.tmp 9))⟩,
 ⟨(some 67), .p (.bin .eql (.tmp 66) (.const (.int .i64 (0))))⟩,
 ⟨(some 68), .p (.mv (.tmp 67))⟩])
 (.cut [9, 65, 68] c5z33)
noncomputable def c5z29 : ICode := .seq (.ops none [⟨(some 64), .p (.pick (.tmp 58) (.tmp 63) (.const (.bool false)))⟩,
 ⟨(some 65), .p (.mv (.tmp 64))⟩])
 (.cut [9, 65] c5z31)
noncomputable def c5z27 : ICode := .seq (.ops (some (58, true)) [⟨(some 59), .p (.mv (.tmp 8))⟩,
 ⟨(some 60), .p (.lenS (.tmp 59))⟩,
 ⟨(some 61), .p (.mv (.tmp 10))⟩,
 ⟨(some 62), .p (.lenS (.tmp 61))⟩,
 ⟨(some 63), .p (.bin .eql (.tmp 60) (.tmp 62))⟩])
 (.cut [9, 58, 63] c5z29)
noncomputable def c5z25 : ICode := .ret
noncomputable def c5z22 : ICode := .seq (.ops none [⟨(some 46), .p (.mv (.tmp 3))⟩,
 ⟨(some 47), .call 18 [(.tmp 46)]⟩,
 ⟨(some 45), .p (.mv (.tmp 47))⟩,
 ⟨(some 48), .p (.ext (.tmp 45) 0)⟩,
 ⟨(some 49), .p (.ext (.tmp 45) 1)⟩,
 ⟨(some 8), .p (.mv (.tmp 48))⟩,
 ⟨(some 9), .p (.mv (.tmp 49))⟩])
 (.seq (.ops none [⟨(some 51), .p (.mv (.tmp 4))⟩,
 ⟨(some 52), .call 18 [(.tmp 51)]⟩,
 ⟨(some 50), .p (.mv (.tmp 52))⟩,
 ⟨(some 53), .p (.ext (.tmp 50) 0)⟩,
 ⟨(some 54), .p (.ext (.tmp 50) 1)⟩,
 ⟨(some 10), .p (.mv (.tmp 53))⟩,
 ⟨(some 11), .p (.mv (.tmp 54))⟩])
 (.seq (.seq (.ops none [⟨(some 55), .p (.mv (.tmp 9))⟩,
 ⟨(some 56), .p (.mv (.tmp 11))⟩,
 ⟨(some 57), .p (.bin .eql (.tmp 55) (.tmp 56))⟩,
 ⟨(some 58), .p (.mv (.tmp 57))⟩])
 (.cut [8, 9, 10, 58] c5z27)) c5z25))
noncomputable def c5z3 : ICode := .cut [3, 4] c5z22
noncomputable def c5 : ICode := .seq (.ops none [⟨(some 2), .p (.mv (.const (.bool false)))⟩])
 (.seq (.ops none [⟨(some 12), .p (.mv (.tmp 0))⟩,
 ⟨(some 13), .call 17 [(.tmp 12)]⟩,
 ⟨(some 14), .e (.mkSl 9 0 [(.string ⟨#[]⟩)] [])⟩,
 ⟨(some 3), .p (.mv (.tmp 13))⟩,
 ⟨(some 4), .p (.mv (.tmp 14))⟩])
 (.seq (.seq (.ops none [⟨(some 5), .p (.mv (.const (.int .i64 (0))))⟩])
 (.block 0 (.loop [3] [4, 5] c5z6))) c5z3))
theorem k5 : compFn Tryd.prog 5 [[], [], [], [3], [4, 5], [], [], [], [], [3, 4, 5], [6, 7], [], [], [], [3, 4, 5, 6], [3, 4, 5], [3, 4], [], [], [8, 9, 10, 58], [9, 58, 63], [9, 65], [9, 65, 68], [65, 68, 70], [65, 71], [73], [73, 74], []] = some (76, c5, [.tmp 2]) := by kernel_rfl
def K5z0 (_P : Program) (K : VK) : Kont := bodyP [.tmp 2] K
def K5z3 : Kont := thenK (iwpP P c5z3 (K5z0 P K)) (K5z0 P K)
def K5z5 : Kont := inBlockK 0 (K5z3 P K)
def K5z6 (l3 : Value) (L1 : LK) : Kont := thenK (fun f' h'' => (([3] : List Nat).map f' : List Value) = [l3] ∧ L1 (([4, 5] : List Nat).map f') h'') (K5z5 P K)
def p5z6 (l3 : Value) (L1 : LK) (xs : List Value) (h : Heap) : Prop := CutP (iwpP P c5z6 (K5z6 P K l3 L1)) ([3] ++ [4, 5]) ([l3] ++ xs) h
def T5 (x0 : Value) (h : Heap) : Prop :=
 CallP P 17 [x0] h fun x13 h_1 =>
 OH (iMkSl 9 0 [(.string ⟨#[]⟩)] h_1 []) fun x14 h_2 =>
 LoopP [x14, (.int .i64 (0))] h_2 fun L1 xs hx =>
 p5z6 P K x13 L1 xs hx
theorem e5 (x0 : Value) (h : Heap) : iwpP P c5 (bodyP [.tmp 2] K) (frame0 [x0]) h = T5 P K x0 h := by kernel_rfl
theorem f5 {K : VK} {x0 : Value} {h : Heap} (H : T5 Tryd.prog K x0 h) : CallP Tryd.prog 5 [x0] h K :=
 callP_intro k5 (Nat.le_of_ble_eq_true rfl) ((e5 Tryd.prog K x0 h).mpr H)
/-! F17: pommel/pommellaw08.made -/
/-! F20: pommel/mark.IsPlain -/
noncomputable def c20z27 : ICode := .ops none [⟨(some 35), .p (.pick (.tmp 31) (.tmp 34) (.const (.bool false)))⟩]
noncomputable def c20z25 : ICode := .seq (.ops (some (31, true)) [⟨(some 32), .p (.mv (.tmp 8))⟩,
 ⟨(some 33), .p (.mv (.tmp 6))⟩,
 ⟨(some 34), .call 37 [(.tmp 32), (.tmp 33)]⟩])
 (.cut [0, 5, 6, 7, 14, 15, 16, 21, 22, 23, 31, 34] c20z27)
noncomputable def c20z23 : ICode := .cond (.tmp 35) (.seq (.ops none [⟨(some 36), .p (.mv (.tmp 5))⟩,
 ⟨(some 37), .p (.mv (.tmp 7))⟩,
 ⟨(some 38), .e (.mkSl 3 2 [(.int .i64 (0))] [(0, 1, (.tmp 36)), (1, 1, (.tmp 37))])⟩,
 ⟨(some 2), .p (.mv (.tmp 38))⟩,
 ⟨(some 3), .p (.mv (.const (.int .i64 (0))))⟩])
 (.ret))
 (.skip)
noncomputable def c20z20 : ICode := .ops none [⟨(some 39), .p (.bin .add (.tmp 23) (.const (.int .i64 (1))))⟩,
 ⟨(some 23), .p (.mv (.tmp 39))⟩]
noncomputable def c20z17 : ICode := .seq (.ops none [⟨(some 24), .p (.bin .lss (.tmp 23) (.tmp 22))⟩])
 (.seq (.cond (.tmp 24) (.skip)
 (.exit 2))
 (.seq (.block 3 (.seq (.ops none [⟨(some 25), .p (.mv (.tmp 23))⟩,
 ⟨(some 26), .p (.adrSl 1 (.tmp 21) (.tmp 23))⟩,
 ⟨(some 27), .l (.load false 1 (.tmp 26))⟩,
 ⟨(some 7), .p (.mv (.tmp 25))⟩,
 ⟨(some 8), .p (.mv (.tmp 27))⟩])
 (.seq (.seq (.ops none [⟨(some 28), .p (.mv (.tmp 5))⟩,
 ⟨(some 29), .p (.mv (.tmp 7))⟩,
 ⟨(some 30), .p (.bin .neq (.tmp 28) (.tmp 29))⟩,
 ⟨(some 31), .p (.mv (.tmp 30))⟩])
 (.cut [0, 5, 6, 7, 8, 14, 15, 16, 21, 22, 23, 31] c20z25)) c20z23))) c20z20))
noncomputable def c20z29 : ICode := .ops none [⟨(some 40), .p (.bin .add (.tmp 16) (.const (.int .i64 (1))))⟩,
 ⟨(some 16), .p (.mv (.tmp 40))⟩]
noncomputable def c20z12 : ICode := .cut [0, 14, 15, 16] c20z29
noncomputable def c20z9 : ICode := .seq (.ops none [⟨(some 17), .p (.bin .lss (.tmp 16) (.tmp 15))⟩])
 (.seq (.cond (.tmp 17) (.skip)
 (.exit 0))
 (.seq (.block 1 (.seq (.ops none [⟨(some 18), .p (.mv (.tmp 16))⟩,
 ⟨(some 19), .p (.adrSl 1 (.tmp 14) (.tmp 16))⟩,
 ⟨(some 20), .l (.load false 1 (.tmp 19))⟩,
 ⟨(some 5), .p (.mv (.tmp 18))⟩,
 ⟨(some 6), .p (.mv (.tmp 20))⟩])
 (.seq (.ops none [⟨(some 21), .p (.mv (.tmp 0))⟩,
 ⟨(some 22), .p (.lenSl (.tmp 21))⟩,
 ⟨(some 23), .p (.mv (.const (.int .i64 (0))))⟩])
 (.block 2 (.loop [0, 5, 6, 14, 15, 16, 21, 22] [23] c20z17))))) c20z12))
noncomputable def c20z6 : ICode := .seq (.ops none [⟨(some 2), .p (.mv (.const (.slice none 0 0)))⟩,
 ⟨(some 3), .p (.mv (.const (.int .i64 (5))))⟩])
 (.ret)
noncomputable def c20 : ICode := .seq (.ops none [⟨(some 2), .p (.mv (.const (.slice none 0 0)))⟩,
 ⟨(some 3), .p (.mv (.const (.int .i64 (0))))⟩])
 (.seq (.seq (.ops none [⟨(some 9), .p (.mv (.tmp 0))⟩,
 ⟨(some 10), .call 34 [(.tmp 9), (.const (.string ⟨#[]⟩))]⟩,
 ⟨(some 4), .p (.mv (.tmp 10))⟩])
 (.seq (.ops none [⟨(some 11), .p (.mv (.tmp 4))⟩,
 ⟨(some 12), .p (.bin .neq (.tmp 11) (.const (.int .i64 (0))))⟩])
 (.cond (.tmp 12) (.seq (.ops none [⟨(some 13), .p (.mv (.tmp 4))⟩,
 ⟨(some 2), .p (.mv (.const (.slice none 0 0)))⟩,
 ⟨(some 3), .p (.mv (.tmp 13))⟩])
 (.ret))
 (.skip))))
 (.seq (.seq (.ops none [⟨(some 14), .p (.mv (.tmp 0))⟩,
 ⟨(some 15), .p (.lenSl (.tmp 14))⟩,
 ⟨(some 16), .p (.mv (.const (.int .i64 (0))))⟩])
 (.block 0 (.loop [0, 14, 15] [16] c20z9))) c20z6))
theorem k20 : compFn Tryd.prog 20 [[], [], [], [], [], [], [0, 14, 15], [16], [], [], [], [], [0, 5, 6, 14, 15, 16, 21, 22], [23], [], [], [], [0, 5, 6, 7, 8, 14, 15, 16, 21, 22, 23, 31], [0, 5, 6, 7, 14, 15, 16, 21, 22, 23, 31, 34], [], [], [], [0, 14, 15, 16], [], []] = some (41, c20, [.tmp 2, .tmp 3]) := by kernel_rfl
def K20z0 (_P : Program) (K : VK) : Kont := bodyP [.tmp 2, .tmp 3] K
def K20z6 : Kont := thenK (iwpP P c20z6 (K20z0 P K)) (K20z0 P K)
def K20z8 : Kont := inBlockK 0 (K20z6 P K)
def K20z9 (words0 x14 x15 : Value) (L1 : LK) : Kont := thenK (fun f' h'' => (([0, 14, 15] : List Nat).map f' : List Value) = [words0, x14, x15] ∧ L1 (([16] : List Nat).map f') h'') (K20z8 P K)
def K20z12 (words0 x14 x15 : Value) (L1 : LK) : Kont := thenK (iwpP P c20z12 (K20z9 P K words0 x14 x15 L1)) (K20z9 P K words0 x14 x15 L1)
def K20z13 (words0 x14 x15 : Value) (L1 : LK) : Kont := inBlockK 1 (K20z12 P K words0 x14 x15 L1)
def K20z16 (words0 x14 x15 : Value) (L1 : LK) : Kont := inBlockK 2 (K20z13 P K words0 x14 x15 L1)
def K20z17 (words0 i5 v6 x14 x15 x16 x21 x22 : Value) (L1 L2 : LK) : Kont := thenK (fun f' h'' => (([0, 5, 6, 14, 15, 16, 21, 22] : List Nat).map f' : List Value) = [words0, i5, v6, x14, x15, x16, x21, x22] ∧ L2 (([23] : List Nat).map f') h'') (K20z16 P K words0 x14 x15 L1)
def K20z20 (words0 i5 v6 x14 x15 x16 x21 x22 : Value) (L1 L2 : LK) : Kont := thenK (iwpP P c20z20 (K20z17 P K words0 i5 v6 x14 x15 x16 x21 x22 L1 L2)) (K20z17 P K words0 i5 v6 x14 x15 x16 x21 x22 L1 L2)
def K20z21 (words0 i5 v6 x14 x15 x16 x21 x22 : Value) (L1 L2 : LK) : Kont := inBlockK 3 (K20z20 P K words0 i5 v6 x14 x15 x16 x21 x22 L1 L2)
def K20z23 (words0 i5 v6 x14 x15 x16 x21 x22 : Value) (L1 L2 : LK) : Kont := thenK (iwpP P c20z23 (K20z21 P K words0 i5 v6 x14 x15 x16 x21 x22 L1 L2)) (K20z21 P K words0 i5 v6 x14 x15 x16 x21 x22 L1 L2)
def p20z9 (words0 x14 x15 : Value) (L1 : LK) (xs : List Value) (h : Heap) : Prop := CutP (iwpP P c20z9 (K20z9 P K words0 x14 x15 L1)) ([0, 14, 15] ++ [16]) ([words0, x14, x15] ++ xs) h
def p20z17 (words0 i5 v6 x14 x15 x16 x21 x22 : Value) (L1 L2 : LK) (xs : List Value) (h : Heap) : Prop := CutP (iwpP P c20z17 (K20z17 P K words0 i5 v6 x14 x15 x16 x21 x22 L1 L2)) ([0, 5, 6, 14, 15, 16, 21, 22] ++ [23]) ([words0, i5, v6, x14, x15, x16, x21, x22] ++ xs) h
def p20z25 (words0 i5 v6 j7 w8 x14 x15 x16 x21 x22 x23 x31 : Value) (L1 L2 : LK) (h : Heap) : Prop := CutP (iwpP P c20z25 (K20z23 P K words0 i5 v6 x14 x15 x16 x21 x22 L1 L2)) [0, 5, 6, 7, 8, 14, 15, 16, 21, 22, 23, 31] [words0, i5, v6, j7, w8, x14, x15, x16, x21, x22, x23, x31] h
def p20z27 (words0 i5 v6 j7 x14 x15 x16 x21 x22 x23 x31 x34 : Value) (L1 L2 : LK) (h : Heap) : Prop := CutP (iwpP P c20z27 (K20z23 P K words0 i5 v6 x14 x15 x16 x21 x22 L1 L2)) [0, 5, 6, 7, 14, 15, 16, 21, 22, 23, 31, 34] [words0, i5, v6, j7, x14, x15, x16, x21, x22, x23, x31, x34] h
def p20z29 (words0 x14 x15 x16 : Value) (L1 : LK) (h : Heap) : Prop := CutP (iwpP P c20z29 (K20z9 P K words0 x14 x15 L1)) [0, 14, 15, 16] [words0, x14, x15, x16] h
theorem q20z27 (words0 i5 v6 j7 x14 x15 x16 x21 x22 x23 x31 x34 : Value) (L1 L2 : LK) (h : Heap) : p20z27 P K words0 i5 v6 j7 x14 x15 x16 x21 x22 x23 x31 x34 L1 L2 h =
 (OP (iPick x31 x34 (.bool false)) fun x35 =>
 IfP x35
 (OH (iMkSl 3 2 [(.int .i64 (0))] h [(0, 1, i5), (1, 1, j7)]) fun x38 h_1 =>
 K (.tuple #[x38, (.int .i64 (0))]) h_1)
 (OP (iBin .add x23 (.int .i64 (1))) fun x39 =>
 ([words0, i5, v6, x14, x15, x16, x21, x22] : List Value) = [words0, i5, v6, x14, x15, x16, x21, x22] ∧ L2 [x39] h)) := (CutP_def _ _ _ _).trans (by kernel_rfl)
theorem q20z25 (words0 i5 v6 j7 w8 x14 x15 x16 x21 x22 x23 x31 : Value) (L1 L2 : LK) (h : Heap) : p20z25 P K words0 i5 v6 j7 w8 x14 x15 x16 x21 x22 x23 x31 L1 L2 h =
 (GdP x31 true
 (CallP P 37 [w8, v6] h fun x34 h_1 =>
 p20z27 P K words0 i5 v6 j7 x14 x15 x16 x21 x22 x23 x31 x34 L1 L2 h_1)
 (p20z27 P K words0 i5 v6 j7 x14 x15 x16 x21 x22 x23 x31 undef L1 L2 h)) := (CutP_def _ _ _ _).trans (by kernel_rfl)
theorem q20z17 (words0 i5 v6 x14 x15 x16 x21 x22 : Value) (L1 L2 : LK) (x23 : Value) (h : Heap) : p20z17 P K words0 i5 v6 x14 x15 x16 x21 x22 L1 L2 [x23] h =
 (OP (iBin .lss x23 x22) fun x24 =>
 IfP x24
 (OP (iAdrSl 1 x21 x23) fun x26 =>
 OP (iLoad false 1 h x26) fun x27 =>
 OP (iBin .neq i5 x23) fun x30 =>
 p20z25 P K words0 i5 v6 x23 x27 x14 x15 x16 x21 x22 x23 x30 L1 L2 h)
 (p20z29 P K words0 x14 x15 x16 L1 h)) := (CutP_def _ _ _ _).trans (by kernel_rfl)
theorem q20z29 (words0 x14 x15 x16 : Value) (L1 : LK) (h : Heap) : p20z29 P K words0 x14 x15 x16 L1 h =
 (OP (iBin .add x16 (.int .i64 (1))) fun x40 =>
 ([words0, x14, x15] : List Value) = [words0, x14, x15] ∧ L1 [x40] h) := (CutP_def _ _ _ _).trans (by kernel_rfl)
theorem q20z9 (words0 x14 x15 : Value) (L1 : LK) (x16 : Value) (h : Heap) : p20z9 P K words0 x14 x15 L1 [x16] h =
 (OP (iBin .lss x16 x15) fun x17 =>
 IfP x17
 (OP (iAdrSl 1 x14 x16) fun x19 =>
 OP (iLoad false 1 h x19) fun x20 =>
 OP (iLenSl words0) fun x22 =>
 LoopP [(.int .i64 (0))] h fun L2 xs hx =>
 p20z17 P K words0 x16 x20 x14 x15 x16 words0 x22 L1 L2 xs hx)
 (K (.tuple #[(.slice none 0 0), (.int .i64 (5))]) h)) := (CutP_def _ _ _ _).trans (by kernel_rfl)
def T20 (words0 : Value) (h : Heap) : Prop :=
 CallP P 34 [words0, (.string ⟨#[]⟩)] h fun x10 h_1 =>
 OP (iBin .neq x10 (.int .i64 (0))) fun x12 =>
 IfP x12
 (K (.tuple #[(.slice none 0 0), x10]) h_1)
 (OP (iLenSl words0) fun x15 =>
 LoopP [(.int .i64 (0))] h_1 fun L1 xs hx =>
 p20z9 P K words0 words0 x15 L1 xs hx)
theorem e20 (words0 : Value) (h : Heap) : iwpP P c20 (bodyP [.tmp 2, .tmp 3] K) (frame0 [words0]) h = T20 P K words0 h := by kernel_rfl
theorem f20 {K : VK} {words0 : Value} {h : Heap} (H : T20 Tryd.prog K words0 h) : CallP Tryd.prog 20 [words0] h K :=
 callP_intro k20 (Nat.le_of_ble_eq_true rfl) ((e20 Tryd.prog K words0 h).mpr H)
/-! F21: pommel/pommelref08.Code -/
noncomputable def c21z18 : ICode := .ops none [⟨(some 28), .p (.pick (.tmp 21) (.const (.bool true)) (.tmp 27))⟩]
noncomputable def c21z16 : ICode := .seq (.ops (some (21, false)) [⟨(some 22), .p (.mv (.tmp 0))⟩,
 ⟨(some 23), .p (.mv (.tmp 3))⟩,
 ⟨(some 24), .p (.adrSl 1 (.tmp 22) (.tmp 23))⟩,
 ⟨(some 25), .l (.load false 1 (.tmp 24))⟩,
 ⟨(some 26), .call 40 [(.tmp 25)]⟩,
 ⟨(some 27), .p (.un .not (.tmp 26))⟩])
 (.cut [0, 3, 21, 27] c21z18)
noncomputable def c21z14 : ICode := .cond (.tmp 28) (.seq (.ops none [⟨(some 2), .p (.mv (.const (.int .i64 (2))))⟩])
 (.ret))
 (.skip)
noncomputable def c21z22 : ICode := .seq (.seq (.ops none [⟨(some 29), .p (.mv (.tmp 4))⟩,
 ⟨(some 30), .p (.mv (.tmp 3))⟩,
 ⟨(some 31), .p (.bin .lss (.tmp 29) (.tmp 30))⟩])
 (.cond (.tmp 31) (.skip)
 (.exit 2)))
 (.seq (.block 3 (.seq (.dops [(none, [⟨(some 34), .p (.mv (.tmp 0)), 0⟩,
 ⟨(some 35), .p (.mv (.tmp 3)), 0⟩,
 ⟨(some 36), .p (.adrSl 1 (.tmp 34) (.tmp 35)), 3⟩,
 ⟨(some 37), .l (.load false 1 (.tmp 36)), 7⟩,
 ⟨(some 38), .p (.mv (.tmp 0)), 0⟩,
 ⟨(some 39), .p (.mv (.tmp 4)), 0⟩,
 ⟨(some 40), .p (.adrSl 1 (.tmp 38) (.tmp 39)), 48⟩,
 ⟨(some 41), .l (.load false 1 (.tmp 40)), 112⟩,
 ⟨(some 42), .p (.bin .eql (.tmp 37) (.tmp 41)), 255⟩])])
 (.cond (.tmp 42) (.seq (.ops none [⟨(some 2), .p (.mv (.const (.int .i64 (2))))⟩])
 (.ret))
 (.skip))))
 (.ops none [⟨(some 32), .p (.mv (.tmp 4))⟩,
 ⟨(some 33), .p (.bin .add (.tmp 32) (.const (.int .i64 (1))))⟩,
 ⟨(some 4), .p (.mv (.tmp 33))⟩]))
noncomputable def c21z13 : ICode := .seq (.ops none [⟨(some 4), .p (.mv (.const (.int .i64 (0))))⟩])
 (.block 2 (.loop [0, 3] [4] c21z22))
noncomputable def c21z29 : ICode := .ops none [⟨(some 12), .p (.mv (.tmp 3))⟩,
 ⟨(some 13), .p (.bin .add (.tmp 12) (.const (.int .i64 (1))))⟩,
 ⟨(some 3), .p (.mv (.tmp 13))⟩]
noncomputable def c21z11 : ICode := .cut [0, 3] c21z29
noncomputable def c21z8 : ICode := .seq (.seq (.ops none [⟨(some 8), .p (.mv (.tmp 3))⟩,
 ⟨(some 9), .p (.mv (.tmp 0))⟩,
 ⟨(some 10), .p (.lenSl (.tmp 9))⟩,
 ⟨(some 11), .p (.bin .lss (.tmp 8) (.tmp 10))⟩])
 (.cond (.tmp 11) (.skip)
 (.exit 0)))
 (.seq (.block 1 (.seq (.seq (.seq (.ops none [⟨(some 14), .p (.mv (.tmp 0))⟩,
 ⟨(some 15), .p (.mv (.tmp 3))⟩,
 ⟨(some 16), .p (.adrSl 1 (.tmp 14) (.tmp 15))⟩,
 ⟨(some 17), .l (.load false 1 (.tmp 16))⟩,
 ⟨(some 18), .p (.lenS (.tmp 17))⟩,
 ⟨(some 19), .call 28 [(.tmp 18), (.const (.int .i64 (1))), (.const (.int .i64 (10)))]⟩,
 ⟨(some 20), .p (.un .not (.tmp 19))⟩,
 ⟨(some 21), .p (.mv (.tmp 20))⟩])
 (.cut [0, 3, 21] c21z16)) c21z14) c21z13)) c21z11)
noncomputable def c21z30 : ICode := .seq (.seq (.ops none [⟨(some 43), .p (.mv (.tmp 0))⟩,
 ⟨(some 44), .p (.lenSl (.tmp 43))⟩,
 ⟨(some 45), .p (.bin .eql (.tmp 44) (.const (.int .i64 (0))))⟩])
 (.cond (.tmp 45) (.seq (.ops none [⟨(some 2), .p (.mv (.const (.int .i64 (2))))⟩])
 (.ret))
 (.skip)))
 (.seq (.ops none [⟨(some 2), .p (.mv (.const (.int .i64 (0))))⟩])
 (.ret))
noncomputable def c21z5 : ICode := .cut [0] c21z30
noncomputable def c21 : ICode := .seq (.ops none [⟨(some 2), .p (.mv (.const (.int .i64 (0))))⟩])
 (.seq (.seq (.ops none [⟨(some 5), .p (.mv (.tmp 0))⟩,
 ⟨(some 6), .p (.lenSl (.tmp 5))⟩,
 ⟨(some 7), .p (.bin .gtr (.tmp 6) (.const (.int .i64 (12))))⟩])
 (.cond (.tmp 7) (.seq (.ops none [⟨(some 2), .p (.mv (.const (.int .i64 (3))))⟩])
 (.ret))
 (.skip)))
 (.seq (.seq (.ops none [⟨(some 3), .p (.mv (.const (.int .i64 (0))))⟩])
 (.block 0 (.loop [0] [3] c21z8))) c21z5))
theorem k21 : compFn Tryd.prog 21 [[], [], [], [], [], [0], [3], [], [], [0, 3, 21], [0, 3, 21, 27], [], [], [], [], [0, 3], [4], [], [], [], [], [], [0, 3], [0], [], [], [], []] = some (46, c21, [.tmp 2]) := by kernel_rfl
def K21z0 (_P : Program) (K : VK) : Kont := bodyP [.tmp 2] K
def K21z5 : Kont := thenK (iwpP P c21z5 (K21z0 P K)) (K21z0 P K)
def K21z7 : Kont := inBlockK 0 (K21z5 P K)
def K21z8 (l0 : Value) (L1 : LK) : Kont := thenK (fun f' h'' => (([0] : List Nat).map f' : List Value) = [l0] ∧ L1 (([3] : List Nat).map f') h'') (K21z7 P K)
def K21z11 (l0 : Value) (L1 : LK) : Kont := thenK (iwpP P c21z11 (K21z8 P K l0 L1)) (K21z8 P K l0 L1)
def K21z12 (l0 : Value) (L1 : LK) : Kont := inBlockK 1 (K21z11 P K l0 L1)
def K21z13 (l0 : Value) (L1 : LK) : Kont := thenK (iwpP P c21z13 (K21z12 P K l0 L1)) (K21z12 P K l0 L1)
def K21z14 (l0 : Value) (L1 : LK) : Kont := thenK (iwpP P c21z14 (K21z13 P K l0 L1)) (K21z13 P K l0 L1)
def K21z21 (l0 : Value) (L1 : LK) : Kont := inBlockK 2 (K21z12 P K l0 L1)
def K21z22 (l0 i3 : Value) (L1 L2 : LK) : Kont := thenK (fun f' h'' => (([0, 3] : List Nat).map f' : List Value) = [l0, i3] ∧ L2 (([4] : List Nat).map f') h'') (K21z21 P K l0 L1)
def p21z8 (l0 : Value) (L1 : LK) (xs : List Value) (h : Heap) : Prop := CutP (iwpP P c21z8 (K21z8 P K l0 L1)) ([0] ++ [3]) ([l0] ++ xs) h
def p21z16 (l0 i3 x21 : Value) (L1 : LK) (h : Heap) : Prop := CutP (iwpP P c21z16 (K21z14 P K l0 L1)) [0, 3, 21] [l0, i3, x21] h
def p21z18 (l0 i3 x21 x27 : Value) (L1 : LK) (h : Heap) : Prop := CutP (iwpP P c21z18 (K21z14 P K l0 L1)) [0, 3, 21, 27] [l0, i3, x21, x27] h
def p21z22 (l0 i3 : Value) (L1 L2 : LK) (xs : List Value) (h : Heap) : Prop := CutP (iwpP P c21z22 (K21z22 P K l0 i3 L1 L2)) ([0, 3] ++ [4]) ([l0, i3] ++ xs) h
def p21z29 (l0 i3 : Value) (L1 : LK) (h : Heap) : Prop := CutP (iwpP P c21z29 (K21z8 P K l0 L1)) [0, 3] [l0, i3] h
def p21z30 (l0 : Value) (h : Heap) : Prop := CutP (iwpP P c21z30 (K21z0 P K)) [0] [l0] h
theorem q21z18 (l0 i3 x21 x27 : Value) (L1 : LK) (h : Heap) : p21z18 P K l0 i3 x21 x27 L1 h =
 (OP (iPick x21 (.bool true) x27) fun x28 =>
 IfP x28
 (K (.int .i64 (2)) h)
 (LoopP [(.int .i64 (0))] h fun L2 xs hx =>
 p21z22 P K l0 i3 L1 L2 xs hx)) := (CutP_def _ _ _ _).trans (by kernel_rfl)
theorem q21z16 (l0 i3 x21 : Value) (L1 : LK) (h : Heap) : p21z16 P K l0 i3 x21 L1 h =
 (GdP x21 false
 (OP (iAdrSl 1 l0 i3) fun x24 =>
 OP (iLoad false 1 h x24) fun x25 =>
 CallP P 40 [x25] h fun x26 h_1 =>
 OP (iUn .not x26) fun x27 =>
 p21z18 P K l0 i3 x21 x27 L1 h_1)
 (p21z18 P K l0 i3 x21 undef L1 h)) := (CutP_def _ _ _ _).trans (by kernel_rfl)
theorem q21z22 (l0 i3 : Value) (L1 L2 : LK) (k4 : Value) (h : Heap) : p21z22 P K l0 i3 L1 L2 [k4] h =
 (OP (iBin .lss k4 i3) fun x31 =>
 IfP x31
 (OP (iAdrSl 1 l0 i3) fun x36 =>
 OP (iLoad false 1 h x36) fun x37 =>
 (True) ∧
 OP (iAdrSl 1 l0 k4) fun x40 =>
 OP (iLoad false 1 h x40) fun x41 =>
 (True) ∧
 OP (iBin .eql x37 x41) fun x42 =>
 IfP x42
 (K (.int .i64 (2)) h)
 (OP (iBin .add k4 (.int .i64 (1))) fun x33 =>
 ([l0, i3] : List Value) = [l0, i3] ∧ L2 [x33] h))
 (p21z29 P K l0 i3 L1 h)) := (CutP_def _ _ _ _).trans (by kernel_rfl)
theorem q21z29 (l0 i3 : Value) (L1 : LK) (h : Heap) : p21z29 P K l0 i3 L1 h =
 (OP (iBin .add i3 (.int .i64 (1))) fun x13 =>
 ([l0] : List Value) = [l0] ∧ L1 [x13] h) := (CutP_def _ _ _ _).trans (by kernel_rfl)
theorem q21z8 (l0 : Value) (L1 : LK) (i3 : Value) (h : Heap) : p21z8 P K l0 L1 [i3] h =
 (OP (iLenSl l0) fun x10 =>
 OP (iBin .lss i3 x10) fun x11 =>
 IfP x11
 (OP (iAdrSl 1 l0 i3) fun x16 =>
 OP (iLoad false 1 h x16) fun x17 =>
 OP (iLenS x17) fun x18 =>
 CallP P 28 [x18, (.int .i64 (1)), (.int .i64 (10))] h fun x19 h_1 =>
 OP (iUn .not x19) fun x20 =>
 p21z16 P K l0 i3 x20 L1 h_1)
 (p21z30 P K l0 h)) := (CutP_def _ _ _ _).trans (by kernel_rfl)
theorem q21z30 (l0 : Value) (h : Heap) : p21z30 P K l0 h =
 (OP (iLenSl l0) fun x44 =>
 OP (iBin .eql x44 (.int .i64 (0))) fun x45 =>
 IfP x45
 (K (.int .i64 (2)) h)
 (K (.int .i64 (0)) h)) := (CutP_def _ _ _ _).trans (by kernel_rfl)
def T21 (l0 : Value) (h : Heap) : Prop :=
 OP (iLenSl l0) fun x6 =>
 OP (iBin .gtr x6 (.int .i64 (12))) fun x7 =>
 IfP x7
 (K (.int .i64 (3)) h)
 (LoopP [(.int .i64 (0))] h fun L1 xs hx =>
 p21z8 P K l0 L1 xs hx)
theorem e21 (l0 : Value) (h : Heap) : iwpP P c21 (bodyP [.tmp 2] K) (frame0 [l0]) h = T21 P K l0 h := by kernel_rfl
theorem f21 {K : VK} {l0 : Value} {h : Heap} (H : T21 Tryd.prog K l0 h) : CallP Tryd.prog 21 [l0] h K :=
 callP_intro k21 (Nat.le_of_ble_eq_true rfl) ((e21 Tryd.prog K l0 h).mpr H)
/-! F22: pommel/pommelref08.Begins -/
noncomputable def c22z12 : ICode := .seq (.seq (.ops none [⟨(some 11), .p (.mv (.tmp 4))⟩,
 ⟨(some 12), .p (.mv (.tmp 0))⟩,
 ⟨(some 13), .p (.lenSl (.tmp 12))⟩,
 ⟨(some 14), .p (.bin .lss (.tmp 11) (.tmp 13))⟩])
 (.cond (.tmp 14) (.skip)
 (.exit 2)))
 (.seq (.block 3 (.seq (.dops [(none, [⟨(some 17), .p (.mv (.tmp 3)), 0⟩,
 ⟨(some 18), .p (.mv (.tmp 4)), 0⟩,
 ⟨(some 19), .p (.bin .neq (.tmp 17) (.tmp 18)), 3⟩,
 ⟨(some 20), .p (.mv (.tmp 19)), 7⟩]),
 ((some (20, true)), [⟨(some 21), .p (.mv (.tmp 0)), 15⟩,
 ⟨(some 22), .p (.mv (.tmp 3)), 15⟩,
 ⟨(some 23), .p (.adrSl 1 (.tmp 21) (.tmp 22)), 63⟩,
 ⟨(some 24), .l (.load false 1 (.tmp 23)), 127⟩,
 ⟨(some 25), .p (.mv (.tmp 0)), 15⟩,
 ⟨(some 26), .p (.mv (.tmp 4)), 15⟩,
 ⟨(some 27), .p (.adrSl 1 (.tmp 25) (.tmp 26)), 783⟩,
 ⟨(some 28), .l (.load false 1 (.tmp 27)), 1807⟩,
 ⟨(some 29), .call 41 [(.tmp 24), (.tmp 28)], 4095⟩]),
 (none, [⟨(some 30), .p (.pick (.tmp 20) (.tmp 29) (.const (.bool false))), 8191⟩])])
 (.cond (.tmp 30) (.seq (.ops none [⟨(some 31), .p (.mv (.tmp 3))⟩,
 ⟨(some 32), .p (.mv (.tmp 4))⟩,
 ⟨(some 33), .e (.mkSl 3 2 [(.int .i64 (0))] [(0, 1, (.tmp 31)), (1, 1, (.tmp 32))])⟩,
 ⟨(some 2), .p (.mv (.tmp 33))⟩])
 (.ret))
 (.skip))))
 (.ops none [⟨(some 15), .p (.mv (.tmp 4))⟩,
 ⟨(some 16), .p (.bin .add (.tmp 15) (.const (.int .i64 (1))))⟩,
 ⟨(some 4), .p (.mv (.tmp 16))⟩]))
noncomputable def c22z19 : ICode := .ops none [⟨(some 9), .p (.mv (.tmp 3))⟩,
 ⟨(some 10), .p (.bin .add (.tmp 9) (.const (.int .i64 (1))))⟩,
 ⟨(some 3), .p (.mv (.tmp 10))⟩]
noncomputable def c22z8 : ICode := .cut [0, 3] c22z19
noncomputable def c22z5 : ICode := .seq (.seq (.ops none [⟨(some 5), .p (.mv (.tmp 3))⟩,
 ⟨(some 6), .p (.mv (.tmp 0))⟩,
 ⟨(some 7), .p (.lenSl (.tmp 6))⟩,
 ⟨(some 8), .p (.bin .lss (.tmp 5) (.tmp 7))⟩])
 (.cond (.tmp 8) (.skip)
 (.exit 0)))
 (.seq (.block 1 (.seq (.ops none [⟨(some 4), .p (.mv (.const (.int .i64 (0))))⟩])
 (.block 2 (.loop [0, 3] [4] c22z12)))) c22z8)
noncomputable def c22z2 : ICode := .seq (.ops none [⟨(some 2), .p (.mv (.const (.slice none 0 0)))⟩])
 (.ret)
noncomputable def c22 : ICode := .seq (.ops none [⟨(some 2), .p (.mv (.const (.slice none 0 0)))⟩])
 (.seq (.seq (.ops none [⟨(some 3), .p (.mv (.const (.int .i64 (0))))⟩])
 (.block 0 (.loop [0] [3] c22z5))) c22z2)
theorem k22 : compFn Tryd.prog 22 [[], [], [0], [3], [], [], [], [0, 3], [4], [], [], [], [], [], [0, 3], [], []] = some (34, c22, [.tmp 2]) := by kernel_rfl
def K22z0 (_P : Program) (K : VK) : Kont := bodyP [.tmp 2] K
def K22z2 : Kont := thenK (iwpP P c22z2 (K22z0 P K)) (K22z0 P K)
def K22z4 : Kont := inBlockK 0 (K22z2 P K)
def K22z5 (l0 : Value) (L1 : LK) : Kont := thenK (fun f' h'' => (([0] : List Nat).map f' : List Value) = [l0] ∧ L1 (([3] : List Nat).map f') h'') (K22z4 P K)
def K22z8 (l0 : Value) (L1 : LK) : Kont := thenK (iwpP P c22z8 (K22z5 P K l0 L1)) (K22z5 P K l0 L1)
def K22z9 (l0 : Value) (L1 : LK) : Kont := inBlockK 1 (K22z8 P K l0 L1)
def K22z11 (l0 : Value) (L1 : LK) : Kont := inBlockK 2 (K22z9 P K l0 L1)
def K22z12 (l0 i3 : Value) (L1 L2 : LK) : Kont := thenK (fun f' h'' => (([0, 3] : List Nat).map f' : List Value) = [l0, i3] ∧ L2 (([4] : List Nat).map f') h'') (K22z11 P K l0 L1)
def p22z5 (l0 : Value) (L1 : LK) (xs : List Value) (h : Heap) : Prop := CutP (iwpP P c22z5 (K22z5 P K l0 L1)) ([0] ++ [3]) ([l0] ++ xs) h
def p22z12 (l0 i3 : Value) (L1 L2 : LK) (xs : List Value) (h : Heap) : Prop := CutP (iwpP P c22z12 (K22z12 P K l0 i3 L1 L2)) ([0, 3] ++ [4]) ([l0, i3] ++ xs) h
def p22z19 (l0 i3 : Value) (L1 : LK) (h : Heap) : Prop := CutP (iwpP P c22z19 (K22z5 P K l0 L1)) [0, 3] [l0, i3] h
theorem q22z12 (l0 i3 : Value) (L1 L2 : LK) (j4 : Value) (h : Heap) : p22z12 P K l0 i3 L1 L2 [j4] h =
 (OP (iLenSl l0) fun x13 =>
 OP (iBin .lss j4 x13) fun x14 =>
 IfP x14
 (OP (iBin .neq i3 j4) fun x19 =>
 GdP x19 true
 (OP (iAdrSl 1 l0 i3) fun x23 =>
 OP (iLoad false 1 h x23) fun x24 =>
 (True) ∧
 OP (iAdrSl 1 l0 j4) fun x27 =>
 OP (iLoad false 1 h x27) fun x28 =>
 (True) ∧
 CallP P 41 [x24, x28] h fun x29 h_1 =>
 (True) ∧
 OP (iPick x19 x29 (.bool false)) fun x30 =>
 IfP x30
 (OH (iMkSl 3 2 [(.int .i64 (0))] h_1 [(0, 1, i3), (1, 1, j4)]) fun x33 h_2 =>
 K x33 h_2)
 (OP (iBin .add j4 (.int .i64 (1))) fun x16 =>
 ([l0, i3] : List Value) = [l0, i3] ∧ L2 [x16] h_1))
 ((True) ∧
 OP (iPick x19 undef (.bool false)) fun x30 =>
 IfP x30
 (OH (iMkSl 3 2 [(.int .i64 (0))] h [(0, 1, i3), (1, 1, j4)]) fun x33 h_1 =>
 K x33 h_1)
 (OP (iBin .add j4 (.int .i64 (1))) fun x16 =>
 ([l0, i3] : List Value) = [l0, i3] ∧ L2 [x16] h)))
 (p22z19 P K l0 i3 L1 h)) := (CutP_def _ _ _ _).trans (by kernel_rfl)
theorem q22z19 (l0 i3 : Value) (L1 : LK) (h : Heap) : p22z19 P K l0 i3 L1 h =
 (OP (iBin .add i3 (.int .i64 (1))) fun x10 =>
 ([l0] : List Value) = [l0] ∧ L1 [x10] h) := (CutP_def _ _ _ _).trans (by kernel_rfl)
theorem q22z5 (l0 : Value) (L1 : LK) (i3 : Value) (h : Heap) : p22z5 P K l0 L1 [i3] h =
 (OP (iLenSl l0) fun x7 =>
 OP (iBin .lss i3 x7) fun x8 =>
 IfP x8
 (LoopP [(.int .i64 (0))] h fun L2 xs hx =>
 p22z12 P K l0 i3 L1 L2 xs hx)
 (K (.slice none 0 0) h)) := (CutP_def _ _ _ _).trans (by kernel_rfl)
def T22 (l0 : Value) (h : Heap) : Prop :=
 LoopP [(.int .i64 (0))] h fun L1 xs hx =>
 p22z5 P K l0 L1 xs hx
theorem e22 (l0 : Value) (h : Heap) : iwpP P c22 (bodyP [.tmp 2] K) (frame0 [l0]) h = T22 P K l0 h := by kernel_rfl
theorem f22 {K : VK} {l0 : Value} {h : Heap} (H : T22 Tryd.prog K l0 h) : CallP Tryd.prog 22 [l0] h K :=
 callP_intro k22 (Nat.le_of_ble_eq_true rfl) ((e22 Tryd.prog K l0 h).mpr H)
/-! F26: pommel/pommellaw08.lengths -/
/-! F40: pommel/pommelref08.bits -/
noncomputable def c40z14 : ICode := .ops none [⟨(some 19), .p (.pick (.tmp 14) (.tmp 18) (.const (.bool false)))⟩]
noncomputable def c40z12 : ICode := .seq (.ops (some (14, true)) [⟨(some 15), .p (.mv (.tmp 0))⟩,
 ⟨(some 16), .p (.mv (.tmp 3))⟩,
 ⟨(some 17), .p (.idxS (.tmp 15) (.tmp 16))⟩,
 ⟨(some 18), .p (.bin .neq (.tmp 17) (.const (.int .u8 (49))))⟩])
 (.cut [0, 3, 14, 18] c40z14)
noncomputable def c40z10 : ICode := .cond (.tmp 19) (.seq (.ops none [⟨(some 2), .p (.mv (.const (.bool false)))⟩])
 (.ret))
 (.skip)
noncomputable def c40z8 : ICode := .ops none [⟨(some 8), .p (.mv (.tmp 3))⟩,
 ⟨(some 9), .p (.bin .add (.tmp 8) (.const (.int .i64 (1))))⟩,
 ⟨(some 3), .p (.mv (.tmp 9))⟩]
noncomputable def c40z5 : ICode := .seq (.seq (.ops none [⟨(some 4), .p (.mv (.tmp 3))⟩,
 ⟨(some 5), .p (.mv (.tmp 0))⟩,
 ⟨(some 6), .p (.lenS (.tmp 5))⟩,
 ⟨(some 7), .p (.bin .lss (.tmp 4) (.tmp 6))⟩])
 (.cond (.tmp 7) (.skip)
 (.exit 0)))
 (.seq (.block 1 (.seq (.seq (.ops none [⟨(some 10), .p (.mv (.tmp 0))⟩,
 ⟨(some 11), .p (.mv (.tmp 3))⟩,
 ⟨(some 12), .p (.idxS (.tmp 10) (.tmp 11))⟩,
 ⟨(some 13), .p (.bin .neq (.tmp 12) (.const (.int .u8 (48))))⟩,
 ⟨(some 14), .p (.mv (.tmp 13))⟩])
 (.cut [0, 3, 14] c40z12)) c40z10)) c40z8)
noncomputable def c40z2 : ICode := .seq (.ops none [⟨(some 2), .p (.mv (.const (.bool true)))⟩])
 (.ret)
noncomputable def c40 : ICode := .seq (.ops none [⟨(some 2), .p (.mv (.const (.bool false)))⟩])
 (.seq (.seq (.ops none [⟨(some 3), .p (.mv (.const (.int .i64 (0))))⟩])
 (.block 0 (.loop [0] [3] c40z5))) c40z2)
theorem k40 : compFn Tryd.prog 40 [[], [], [0], [3], [], [], [0, 3, 14], [0, 3, 14, 18], [], [], [], [], []] = some (20, c40, [.tmp 2]) := by kernel_rfl
def K40z0 (_P : Program) (K : VK) : Kont := bodyP [.tmp 2] K
def K40z2 : Kont := thenK (iwpP P c40z2 (K40z0 P K)) (K40z0 P K)
def K40z4 : Kont := inBlockK 0 (K40z2 P K)
def K40z5 (s0 : Value) (L1 : LK) : Kont := thenK (fun f' h'' => (([0] : List Nat).map f' : List Value) = [s0] ∧ L1 (([3] : List Nat).map f') h'') (K40z4 P K)
def K40z8 (s0 : Value) (L1 : LK) : Kont := thenK (iwpP P c40z8 (K40z5 P K s0 L1)) (K40z5 P K s0 L1)
def K40z9 (s0 : Value) (L1 : LK) : Kont := inBlockK 1 (K40z8 P K s0 L1)
def K40z10 (s0 : Value) (L1 : LK) : Kont := thenK (iwpP P c40z10 (K40z9 P K s0 L1)) (K40z9 P K s0 L1)
def p40z5 (s0 : Value) (L1 : LK) (xs : List Value) (h : Heap) : Prop := CutP (iwpP P c40z5 (K40z5 P K s0 L1)) ([0] ++ [3]) ([s0] ++ xs) h
def p40z12 (s0 i3 x14 : Value) (L1 : LK) (h : Heap) : Prop := CutP (iwpP P c40z12 (K40z10 P K s0 L1)) [0, 3, 14] [s0, i3, x14] h
def p40z14 (s0 i3 x14 x18 : Value) (L1 : LK) (h : Heap) : Prop := CutP (iwpP P c40z14 (K40z10 P K s0 L1)) [0, 3, 14, 18] [s0, i3, x14, x18] h
theorem q40z14 (s0 i3 x14 x18 : Value) (L1 : LK) (h : Heap) : p40z14 P K s0 i3 x14 x18 L1 h =
 (OP (iPick x14 x18 (.bool false)) fun x19 =>
 IfP x19
 (K (.bool false) h)
 (OP (iBin .add i3 (.int .i64 (1))) fun x9 =>
 ([s0] : List Value) = [s0] ∧ L1 [x9] h)) := (CutP_def _ _ _ _).trans (by kernel_rfl)
theorem q40z12 (s0 i3 x14 : Value) (L1 : LK) (h : Heap) : p40z12 P K s0 i3 x14 L1 h =
 (GdP x14 true
 (OP (iIdxS s0 i3) fun x17 =>
 OP (iBin .neq x17 (.int .u8 (49))) fun x18 =>
 p40z14 P K s0 i3 x14 x18 L1 h)
 (p40z14 P K s0 i3 x14 undef L1 h)) := (CutP_def _ _ _ _).trans (by kernel_rfl)
theorem q40z5 (s0 : Value) (L1 : LK) (i3 : Value) (h : Heap) : p40z5 P K s0 L1 [i3] h =
 (OP (iLenS s0) fun x6 =>
 OP (iBin .lss i3 x6) fun x7 =>
 IfP x7
 (OP (iIdxS s0 i3) fun x12 =>
 OP (iBin .neq x12 (.int .u8 (48))) fun x13 =>
 p40z12 P K s0 i3 x13 L1 h)
 (K (.bool true) h)) := (CutP_def _ _ _ _).trans (by kernel_rfl)
def T40 (s0 : Value) (h : Heap) : Prop :=
 LoopP [(.int .i64 (0))] h fun L1 xs hx =>
 p40z5 P K s0 L1 xs hx
theorem e40 (s0 : Value) (h : Heap) : iwpP P c40 (bodyP [.tmp 2] K) (frame0 [s0]) h = T40 P K s0 h := by kernel_rfl
theorem f40 {K : VK} {s0 : Value} {h : Heap} (H : T40 Tryd.prog K s0 h) : CallP Tryd.prog 40 [s0] h K :=
 callP_intro k40 (Nat.le_of_ble_eq_true rfl) ((e40 Tryd.prog K s0 h).mpr H)
/-! F41: pommel/pommelref08.begins -/
noncomputable def c41z6 : ICode := .ops none [⟨(some 17), .p (.pick (.tmp 10) (.tmp 16) (.const (.bool false)))⟩,
 ⟨(some 4), .p (.mv (.tmp 17))⟩]
noncomputable def c41z4 : ICode := .seq (.ops (some (10, true)) [⟨(some 11), .p (.mv (.tmp 1))⟩,
 ⟨(some 12), .p (.mv (.tmp 0))⟩,
 ⟨(some 13), .p (.lenS (.tmp 12))⟩,
 ⟨(some 14), .p (.slS (.tmp 11) none (some (.tmp 13)))⟩,
 ⟨(some 15), .p (.mv (.tmp 0))⟩,
 ⟨(some 16), .p (.bin .eql (.tmp 14) (.tmp 15))⟩])
 (.cut [10, 16] c41z6)
noncomputable def c41z2 : ICode := .ret
noncomputable def c41 : ICode := .seq (.ops none [⟨(some 4), .p (.mv (.const (.bool false)))⟩])
 (.seq (.seq (.ops none [⟨(some 5), .p (.mv (.tmp 0))⟩,
 ⟨(some 6), .p (.lenS (.tmp 5))⟩,
 ⟨(some 7), .p (.mv (.tmp 1))⟩,
 ⟨(some 8), .p (.lenS (.tmp 7))⟩,
 ⟨(some 9), .p (.bin .leq (.tmp 6) (.tmp 8))⟩,
 ⟨(some 10), .p (.mv (.tmp 9))⟩])
 (.cut [0, 1, 10] c41z4)) c41z2)
theorem k41 : compFn Tryd.prog 41 [[], [0, 1, 10], [10, 16], []] = some (18, c41, [.tmp 4]) := by kernel_rfl
def K41z0 (_P : Program) (K : VK) : Kont := bodyP [.tmp 4] K
def K41z2 : Kont := thenK (iwpP P c41z2 (K41z0 P K)) (K41z0 P K)
def p41z4 (s0 t1 x10 : Value) (h : Heap) : Prop := CutP (iwpP P c41z4 (K41z2 P K)) [0, 1, 10] [s0, t1, x10] h
def p41z6 (x10 x16 : Value) (h : Heap) : Prop := CutP (iwpP P c41z6 (K41z2 P K)) [10, 16] [x10, x16] h
theorem q41z6 (x10 x16 : Value) (h : Heap) : p41z6 P K x10 x16 h =
 (OP (iPick x10 x16 (.bool false)) fun x17 =>
 K x17 h) := (CutP_def _ _ _ _).trans (by kernel_rfl)
theorem q41z4 (s0 t1 x10 : Value) (h : Heap) : p41z4 P K s0 t1 x10 h =
 (GdP x10 true
 (OP (iLenS s0) fun x13 =>
 OP (iSlS t1 none (some x13)) fun x14 =>
 OP (iBin .eql x14 s0) fun x16 =>
 p41z6 P K x10 x16 h)
 (p41z6 P K x10 undef h)) := (CutP_def _ _ _ _).trans (by kernel_rfl)
def T41 (s0 t1 : Value) (h : Heap) : Prop :=
 OP (iLenS s0) fun x6 =>
 OP (iLenS t1) fun x8 =>
 OP (iBin .leq x6 x8) fun x9 =>
 p41z4 P K s0 t1 x9 h
theorem e41 (s0 t1 : Value) (h : Heap) : iwpP P c41 (bodyP [.tmp 4] K) (frame0 [s0, t1]) h = T41 P K s0 t1 h := by kernel_rfl
theorem f41 {K : VK} {s0 t1 : Value} {h : Heap} (H : T41 Tryd.prog K s0 t1 h) : CallP Tryd.prog 41 [s0, t1] h K :=
 callP_intro k41 (Nat.le_of_ble_eq_true rfl) ((e41 Tryd.prog K s0 t1 h).mpr H)
end Go.Proofs.YthplaillblmgfaaDoor

namespace Go.Proofs.YthplaillblmgfaaDoor
open Go.Sim

theorem mkW0 (h : Heap) : iMkSl 9 0 [(.string ⟨#[]⟩)] h [] = some (sl 9 h.length 0 0, h ++ [.arr 9 []]) := rfl

structure Ok' (W : List Tx) : Prop where
  nd : W.Nodup
  all : ∀ w ∈ W, w ≠ [] ∧ w.length ≤ 10 ∧ bitsB w = true

end Go.Proofs.YthplaillblmgfaaDoor


namespace Go.Proofs.YthplaillblmgfaaDoor
open Go.Sim

theorem mk1 (g : Heap) (x : Int) : iMkSl 3 1 [(.int .i64 (0))] g [(0, 1, I x)] = some (sl 3 g.length 0 1, g ++ [.arr 3 [I x]]) := rfl
end Go.Proofs.YthplaillblmgfaaDoor


namespace Go.Proofs.YthplaillblmgfaaDoor
open Go.Sim

theorem C41 {s t : Tx} {h : Heap} {K : Value → Heap → Prop} (hk : K (B (decide (s <+: t))) h) : CallP Tryd.prog 41 [S s, S t] h K := by
  refine f41 ?_
  unfold T41
  simp only [lenS_S, OP_some, bin_leq]
  rw [q41z4]
  by_cases hl : s.length ≤ t.length
  · rw [decide_eq_true (show (s.length : Int) ≤ t.length by omega)]
    simp only [GdP_tt, lenS_S, OP_some, slS_hi (a := t) hl .i64, bin_eqlS]
    rw [q41z6]
    simp only [iPick_t, OP_some]
    have : decide (t.take s.length = s) = decide (s <+: t) := decide_eq_decide.2 (by rw [List.prefix_iff_eq_take]; exact eq_comm)
    rw [this]
    exact hk
  · rw [decide_eq_false (show ¬ (s.length : Int) ≤ t.length by omega)]
    simp only [GdP_ft, OP_some]
    rw [q41z6]
    simp only [iPick_f, OP_some]
    have : decide (s <+: t) = false := decide_eq_false fun h => hl h.length_le
    rw [this] at hk
    exact hk

def NoBeg (W : List Tx) : Prop := ∀ i j (hi : i < W.length) (hj : j < W.length), i ≠ j → ¬ W[i] <+: W[j]
structure Fst (W : List Tx) (i j : Nat) : Prop where
  hi : i < W.length
  hj : j < W.length
  ne : i ≠ j
  pre : W[i] <+: W[j]
  fst : ∀ i' j' (hi' : i' < W.length) (hj' : j' < W.length), i' ≠ j' → W[i'] <+: W[j'] → i < i' ∨ i = i' ∧ j ≤ j'

theorem Fst.uniq {W : List Tx} {i j i' j' : Nat} (a : Fst W i j) (b : Fst W i' j') : i = i' ∧ j = j' := by
  have h1 := a.fst i' j' b.hi b.hj b.ne b.pre
  have h2 := b.fst i j a.hi a.hj a.ne a.pre
  omega

theorem Fst.no {W : List Tx} {i j : Nat} (a : Fst W i j) (n : NoBeg W) : False := n i j a.hi a.hj a.ne a.pre

theorem mkI2 (g : Heap) (i j : Nat) : iMkSl 3 2 [(.int .i64 (0))] g [(0, 1, I i), (1, 1, I j)] = some (sl 3 g.length 0 2, g ++ [.arr 3 [I i, I j]]) := by
  have va : ∀ n : Int, vcells (I n) = [I n] := fun _ => rfl
  have na : ∀ n : Int, noTuple (I n) = true := fun _ => rfl
  simp [iMkSl, fillL, zrep, setAt, va, na]

theorem own_two {h g : Heap} (x : EX h g) (i j : Nat) : EX h (g ++ [.arr 3 [I i, I j]]) ∧ OwnS h.length (g ++ [.arr 3 [I i, I j]]) 3 (sl 3 g.length 0 2) [I i, I j] :=
  ⟨x.trans (EX.append _ _), .inr ⟨g.length, x.1, rfl, get_last⟩⟩

theorem C22 {v : Value} {W : List Tx} {h : Heap} {K : Value → Heap → Prop} (hv : SS h v W) (hl : W.length ≤ 1000)
    (hno : NoBeg W → K (.slice none 0 0) h) (hyes : ∀ i j, Fst W i j → ∀ u h', EX h h' → OwnS h.length h' 3 u [I i, I j] → K u h') : CallP Tryd.prog 22 [v] h K := by
  refine f22 ?_
  unfold T22
  refine loopL (σ := Nat) (fun i => [I i]) (fun _ => h) (fun i => i ≤ W.length ∧ ∀ i' j' (hi' : i' < W.length) (hj' : j' < W.length), i' < i → i' ≠ j' → ¬ W[i'] <+: W[j']) (fun i => W.length - i) 0 rfl rfl ⟨Nat.zero_le _, fun _ _ _ _ hi => absurd hi (Nat.not_lt_zero _)⟩ ?_
  rintro i ⟨hi, n1⟩ L hL
  rw [q22z5]
  simp only [hv.len, OP_some, bin_lss, IfP_dec]
  refine ⟨fun hlt => ?_, fun hge => hno fun i' j' hi' hj' hne => n1 i' j' hi' hj' (by omega) hne⟩
  have hlt : i < W.length := by omega
  refine loopL (σ := Nat) (fun i => [I i]) (fun _ => h) (fun j => j ≤ W.length ∧ ∀ j' (hj' : j' < W.length), j' < j → i ≠ j' → ¬ W[i] <+: W[j']) (fun j => W.length - j) 0 rfl rfl ⟨Nat.zero_le _, fun _ _ hi => absurd hi (Nat.not_lt_zero _)⟩ ?_
  rintro j ⟨hj, n2⟩ L2 hL2
  rw [q22z12]
  simp only [hv.len, OP_some, bin_lss, IfP_dec]
  refine ⟨fun hlt2 => ?_, fun hge => ?_⟩
  · have hlt2 : j < W.length := by omega
    have next : ¬ (i ≠ j ∧ W[i] <+: W[j]) → L2 [I ((j + 1 : Nat) : Int)] h := fun hc => hL2 (j + 1) ⟨hlt2, fun j' hj' hlt' hne hp => by
      rcases Nat.lt_succ_iff_lt_or_eq.1 hlt' with h' | h'
      · exact n2 j' hj' h' hne hp
      · subst h'; exact hc ⟨hne, hp⟩⟩ (by omega)
    have w := incM j (show j < maxLen by simp [maxLen]; omega)
    simp only [bin_neq, OP_some]
    by_cases hij : i = j
    · rw [decide_eq_true (show (i : Int) = j by omega)]
      simp only [Bool.not_true, GdP_ft, iPick_f, OP_some, IfP_false, bin_add, w, true_and]
      exact next fun hc => hc.1 hij
    · rw [decide_eq_false (show ¬ (i : Int) = j by omega)]
      obtain ⟨b, o, a1, a2⟩ := hv.get i hlt
      obtain ⟨b', o', a3, a4⟩ := hv.get j hlt2
      simp only [Bool.not_false, GdP_tt, a1, a2, a3, a4, OP_some, true_and]
      refine C41 ?_
      simp only [true_and, iPick_t, OP_some, IfP_dec, bin_add, w, mkI2, OH_some]
      refine ⟨fun hp => ?_, fun hp => next fun hc => hp hc.2⟩
      obtain ⟨x, own⟩ := own_two (EX.refl h) i j
      refine hyes i j ⟨hlt, hlt2, hij, hp, fun i' j' hi' hj' hne hp' => ?_⟩ _ _ x own
      rcases Nat.lt_trichotomy i' i with h' | h' | h'
      · exact absurd hp' (n1 i' j' hi' hj' h' hne)
      · subst h'
        refine .inr ⟨rfl, ?_⟩
        apply Classical.byContradiction
        intro hc
        exact n2 j' hj' (by omega) hne hp'
      · exact .inl h'
  · rw [q22z19]
    simp only [bin_add, OP_some, incM i (show i < maxLen by simp [maxLen]; omega), true_and]
    refine hL (i + 1) ⟨hlt, fun i' j' hi' hj' hlt' hne => ?_⟩ (by omega)
    rcases Nat.lt_succ_iff_lt_or_eq.1 hlt' with h' | h'
    · exact n1 i' j' hi' hj' h' hne
    · subst h'; exact n2 j' hj' (by omega) hne

theorem C20 {b : Nat} {v : Value} {W : List Tx} {h : Heap} {K : Value → Heap → Prop} (hv : OwnS b h 9 v (W.map S)) (hl : W.length ≤ 1000) (hw : ∀ w ∈ W, w.length < 4611686018427387904)
    (he : chkE W [] ≠ 0 → ∀ h', EX h h' → K (.tuple #[.slice none 0 0, I (chkE W [])]) h')
    (hno : chkE W [] = 0 → NoBeg W → ∀ h', EX h h' → K (.tuple #[.slice none 0 0, I 5]) h')
    (hyes : chkE W [] = 0 → ∀ i j, Fst W i j → ∀ u h', EX h h' → OwnS h.length h' 3 u [I i, I j] → K (.tuple #[u, I 0]) h') : CallP Tryd.prog 20 [v] h K := by
  refine f20 ?_
  unfold T20
  have nilS : (.string ⟨#[]⟩ : Value) = S [] := rfl
  rw [nilS]
  refine C34 (s := []) hv (by omega) hw (by simp) ?_
  intro g x
  simp only [bin_neq, OP_some, IfP_ndec]
  refine ⟨fun hc => he hc g x, fun hc => ?_⟩
  have hno := hno hc
  have hyes := hyes hc
  have hs := (own_ss hv).mono x
  simp only [hs.len, OP_some]
  refine loopL (σ := Nat) (fun i => [I i]) (fun _ => g) (fun i => i ≤ W.length ∧ ∀ i' j' (hi' : i' < W.length) (hj' : j' < W.length), i' < i → i' ≠ j' → ¬ W[i'] <+: W[j']) (fun i => W.length - i) 0 rfl rfl ⟨Nat.zero_le _, fun _ _ _ _ hi => absurd hi (Nat.not_lt_zero _)⟩ ?_
  rintro i ⟨hi, n1⟩ L hL
  rw [q20z9]
  simp only [bin_lss, OP_some, IfP_dec]
  refine ⟨fun hlt => ?_, fun hge => hno (fun i' j' hi' hj' hne => n1 i' j' hi' hj' (by omega) hne) g x⟩
  have hlt : i < W.length := by omega
  obtain ⟨b1, o1, a1, a2⟩ := hs.get i hlt
  simp only [a1, a2, OP_some, hs.len]
  refine loopL (σ := Nat) (fun i => [I i]) (fun _ => g) (fun j => j ≤ W.length ∧ ∀ j' (hj' : j' < W.length), j' < j → i ≠ j' → ¬ W[i] <+: W[j']) (fun j => W.length - j) 0 rfl rfl ⟨Nat.zero_le _, fun _ _ hi => absurd hi (Nat.not_lt_zero _)⟩ ?_
  rintro j ⟨hj, n2⟩ L2 hL2
  rw [q20z17]
  simp only [OP_some, bin_lss, IfP_dec]
  refine ⟨fun hlt2 => ?_, fun hge => ?_⟩
  · have hlt2 : j < W.length := by omega
    have next : ¬ (i ≠ j ∧ W[i] <+: W[j]) → L2 [I ((j + 1 : Nat) : Int)] g := fun hc => hL2 (j + 1) ⟨hlt2, fun j' hj' hlt' hne hp => by
      rcases Nat.lt_succ_iff_lt_or_eq.1 hlt' with h' | h'
      · exact n2 j' hj' h' hne hp
      · subst h'; exact hc ⟨hne, hp⟩⟩ (by omega)
    have w := incM j (show j < maxLen by simp [maxLen]; omega)
    obtain ⟨b', o', a3, a4⟩ := hs.get j hlt2
    simp only [bin_neq, OP_some, a3, a4]
    rw [q20z25]
    by_cases hij : i = j
    · rw [decide_eq_true (show (i : Int) = j by omega)]
      simp only [Bool.not_true, GdP_ft, q20z27, iPick_f, OP_some, IfP_false, bin_add, w, true_and]
      exact next fun hc => hc.1 hij
    · rw [decide_eq_false (show ¬ (i : Int) = j by omega)]
      simp only [Bool.not_false, GdP_tt]
      refine C37 ?_
      rw [q20z27]
      simp only [true_and, iPick_t, OP_some, IfP_dec, bin_add, w, mkI2, OH_some]
      refine ⟨fun hp => ?_, fun hp => next fun hc => hp hc.2⟩
      obtain ⟨x', own⟩ := own_two x i j
      refine hyes i j ⟨hlt, hlt2, hij, hp, fun i' j' hi' hj' hne hp' => ?_⟩ _ _ x' own
      rcases Nat.lt_trichotomy i' i with h' | h' | h'
      · exact absurd hp' (n1 i' j' hi' hj' h' hne)
      · subst h'
        refine .inr ⟨rfl, ?_⟩
        apply Classical.byContradiction
        intro hc
        exact n2 j' hj' (by omega) hne hp'
      · exact .inl h'
  · rw [q20z29]
    simp only [bin_add, OP_some, incM i (show i < maxLen by simp [maxLen]; omega), true_and]
    refine hL (i + 1) ⟨hlt, fun i' j' hi' hj' hlt' hne => ?_⟩ (by omega)
    rcases Nat.lt_succ_iff_lt_or_eq.1 hlt' with h' | h'
    · exact n1 i' j' hi' hj' h' hne
    · subst h'; exact n2 j' hj' (by omega) hne

theorem C40 {s : Tx} {h : Heap} {K : Value → Heap → Prop} (hl : s.length < 4611686018427387904) (hk : K (B (bitsB s)) h) : CallP Tryd.prog 40 [S s] h K := by
  refine f40 ?_
  unfold T40
  refine loopL (σ := Nat) (fun i => [I i]) (fun _ => h) (fun i => i ≤ s.length ∧ bitsB (s.take i) = true) (fun i => s.length - i) 0 rfl rfl ⟨Nat.zero_le _, rfl⟩ ?_
  rintro i ⟨hi, hb⟩ L hL
  rw [q40z5]
  simp only [lenS_S, OP_some, bin_lss, IfP_dec]
  refine ⟨fun hlt => ?_, fun hge => ?_⟩
  · have hlt : i < s.length := by omega
    have bad : isBit s[i] = false → K (B false) h := fun hc => by
      have : bitsB s = false := by
        rw [bitsB, List.all_eq_false]
        exact ⟨s[i], List.getElem_mem hlt, by simp [hc]⟩
      rwa [this] at hk
    have next : isBit s[i] = true → L [I ((i + 1 : Nat) : Int)] h := fun hc => hL (i + 1) ⟨hlt, by
      rw [List.take_succ_eq_append_getElem hlt]
      exact bits_app hb (by simp [bitsB, hc])⟩ (by omega)
    have w := incM i (show i < maxLen by simp [maxLen]; omega)
    have c48 : iBin .neq (cv s[i]) (.int .u8 (48)) = some (B (!decide (s[i] = 48))) := by
      have := bin_neq (k := .u8) (a := (s[i].toNat : Int)) (b := ((48 : UInt8).toNat : Int))
      rw [decide_eq_decide.2 (cv_inj s[i] 48)] at this
      exact this
    have c49 : iBin .neq (cv s[i]) (.int .u8 (49)) = some (B (!decide (s[i] = 49))) := by
      have := bin_neq (k := .u8) (a := (s[i].toNat : Int)) (b := ((49 : UInt8).toNat : Int))
      rw [decide_eq_decide.2 (cv_inj s[i] 49)] at this
      exact this
    simp only [idxS_S (a := s) hlt .i64, OP_some, c48]
    rw [q40z12]
    by_cases e1 : s[i] = 48
    · simp only [decide_eq_true e1, Bool.not_true, GdP_ft, q40z14, iPick_f, OP_some, IfP_false, bin_add, w, true_and]
      exact next (by rw [e1]; rfl)
    · simp only [decide_eq_false e1, Bool.not_false, GdP_tt, idxS_S (a := s) hlt .i64, OP_some, c49, q40z14, iPick_t, IfP_ndec, bin_add, w, true_and]
      refine ⟨fun e2 => bad ?_, fun e2 => next (by rw [e2]; rfl)⟩
      simp [isBit, e1, e2]
  · have : i = s.length := by omega
    subst this
    rw [List.take_length] at hb
    rwa [hb] at hk

/-- Why words are no code, by the reference. -/
theorem C21 {v : Value} {W : List Tx} {h : Heap} {K : Value → Heap → Prop} (hv : SS h v W) (hl : W.length ≤ 1000) (hw : ∀ w ∈ W, w.length < 4611686018427387904) (hk : K (I (chkE W [])) h) : CallP Tryd.prog 21 [v] h K := by
  refine f21 ?_
  unfold T21
  simp only [hv.len, OP_some, bin_gtr, IfP_dec]
  have b0 : bitsB [] = true := rfl
  refine ⟨fun h1 => ?_, fun h1 => ?_⟩
  · rw [chkE, if_pos (.inl (by omega))] at hk
    exact hk
  rw [chkE, if_neg (by simp; omega)] at hk
  have bad : ¬ codeOk W → K (I 2) h := fun hc => by
    split at hk
    · exact hk
    · first | exact hk | rwa [if_neg hc] at hk
  refine loopL (σ := Nat) (fun i => [I i]) (fun _ => h) (fun i => i ≤ W.length ∧ ∀ j (hj : j < W.length), j < i → (W[j] ≠ [] ∧ W[j].length ≤ 10 ∧ bitsB W[j] = true) ∧ W[j] ∉ W.take j) (fun i => W.length - i) 0 rfl rfl ⟨Nat.zero_le _, fun _ _ hi => absurd hi (Nat.not_lt_zero _)⟩ ?_
  rintro i ⟨hi, hok⟩ L hL
  rw [q21z8]
  simp only [hv.len, OP_some, bin_lss, IfP_dec]
  refine ⟨fun hlt => ?_, fun hge => ?_⟩
  · have hlt : i < W.length := by omega
    obtain ⟨b, o, a1, a2⟩ := hv.get i hlt
    have mem : W[i] ∈ W := List.getElem_mem hlt
    simp only [a1, a2, OP_some, lenS_S]
    refine C28 ?_
    simp only [un_not, OP_some]
    rw [q21z16]
    by_cases h2 : (1 ≤ W[i].length ∧ W[i].length ≤ 10)
    · rw [decide_eq_true (show (1 : Int) ≤ W[i].length by omega), decide_eq_true (show (W[i].length : Int) ≤ 10 by omega)]
      simp only [Bool.and_true, Bool.not_true, GdP_ff, a1, a2, OP_some]
      refine C40 (hw _ mem) ?_
      simp only [un_not, OP_some]
      rw [q21z18]
      simp only [iPick_f, OP_some]
      cases hb : bitsB W[i] with
      | false =>
        simp only [Bool.not_false, IfP_true]
        exact bad fun hc => by rw [(hc.2 _ mem).2.2] at hb; cases hb
      | true =>
        simp only [Bool.not_true, IfP_false]
        refine loopL (σ := Nat) (fun i => [I i]) (fun _ => h) (fun k => k ≤ i ∧ W[i] ∉ W.take k) (fun k => i - k) 0 rfl rfl ⟨Nat.zero_le _, by simp⟩ ?_
        rintro k ⟨hki, hni⟩ L2 hL2
        rw [q21z22]
        simp only [bin_lss, OP_some, IfP_dec]
        refine ⟨fun hlt2 => ?_, fun hge => ?_⟩
        · have hk2 : k < i := by omega
          obtain ⟨b', o', a3, a4⟩ := hv.get k (by omega)
          simp only [a1, a2, a3, a4, OP_some, true_and, bin_eqlS, IfP_dec, bin_add, incM k (show k < maxLen by simp [maxLen]; omega)]
          refine ⟨fun he => bad fun hc => ?_, fun hne => hL2 (k + 1) ⟨hk2, fun hm => ?_⟩ (by omega)⟩
          · exact (List.pairwise_iff_getElem.1 hc.1) k i (by omega) hlt hk2 he.symm
          · rw [List.take_succ_eq_append_getElem (by omega : k < W.length), List.mem_append, List.mem_singleton] at hm
            exact hm.elim hni hne
        · rw [q21z29]
          simp only [bin_add, OP_some, incM i (show i < maxLen by simp [maxLen]; omega), true_and]
          refine hL (i + 1) ⟨hlt, fun j hj hji => ?_⟩ (by omega)
          rcases Nat.lt_succ_iff_lt_or_eq.1 hji with h' | h'
          · exact hok j hj h'
          · subst h'
            have : k = j := by omega
            subst this
            exact ⟨⟨by intro e; rw [e] at h2; simp at h2, h2.2, hb⟩, hni⟩
    · have e : (decide ((1 : Int) ≤ W[i].length) && decide ((W[i].length : Int) ≤ 10)) = false := by
        rw [Bool.and_eq_false_iff, decide_eq_false_iff_not, decide_eq_false_iff_not]; omega
      rw [e]
      simp only [Bool.not_false, GdP_tf, q21z18, iPick_t, OP_some, IfP_true]
      refine bad fun hc => h2 ⟨?_, (hc.2 _ mem).2.1⟩
      have := List.length_pos_iff.2 (hc.2 _ mem).1
      omega
  · have ok : codeOk W := ⟨List.pairwise_iff_getElem.2 fun a b ha hb hab e => (hok b hb (by omega)).2 (e ▸ List.mem_take_iff_getElem.2 ⟨a, by omega, rfl⟩), fun w hw => by
      obtain ⟨j, hj, rfl⟩ := List.getElem_of_mem hw
      exact (hok j hj (by omega)).1⟩
    rw [q21z30]
    simp only [hv.len, OP_some, bin_eql, IfP_dec]
    refine ⟨fun h0 => ?_, fun h0 => ?_⟩
    · rw [if_pos (.inl (List.length_eq_zero_iff.1 (by omega)))] at hk
      exact hk
    · rw [if_neg, if_pos ok] at hk
      · exact hk
      · rintro (e | e)
        · rw [e] at h0; simp at h0
        · rw [b0] at e; cases e

end Go.Proofs.YthplaillblmgfaaDoor


namespace Go.Proofs.YthplaillblmgfaaDoor
open Go.Sim
variable (P : Program) (K : VK)
/-! F6: pommel/pommellaw08.MarkCodes -/
noncomputable def c6z24 : ICode := .ops none [⟨(some 47), .p (.pick (.tmp 45) (.tmp 46) (.const (.bool false)))⟩,
 ⟨(some 2), .p (.mv (.tmp 47))⟩]
noncomputable def c6z22 : ICode := .seq (.ops (some (45, true)) [⟨(some 46), .call 13 []⟩])
 (.cut [45, 46] c6z24)
noncomputable def c6z20 : ICode := .seq (.ops none [⟨(some 44), .p (.pick (.tmp 40) (.tmp 43) (.const (.bool false)))⟩,
 ⟨(some 45), .p (.mv (.tmp 44))⟩])
 (.cut [45] c6z22)
noncomputable def c6z18 : ICode := .seq (.ops (some (40, true)) [⟨(some 41), .p (.mv (.tmp 7))⟩,
 ⟨(some 42), .p (.mv (.tmp 8))⟩,
 ⟨(some 43), .p (.bin .eql (.tmp 41) (.tmp 42))⟩])
 (.cut [40, 43] c6z20)
noncomputable def c6z16 : ICode := .seq (.ops none [⟨(some 39), .p (.pick (.tmp 36) (.tmp 38) (.const (.bool false)))⟩,
 ⟨(some 40), .p (.mv (.tmp 39))⟩])
 (.cut [7, 8, 40] c6z18)
noncomputable def c6z14 : ICode := .seq (.ops (some (36, true)) [⟨(some 37), .p (.mv (.tmp 6))⟩,
 ⟨(some 38), .p (.bin .eql (.tmp 37) (.const (.string ⟨#[]⟩)))⟩])
 (.cut [7, 8, 36, 38] c6z16)
noncomputable def c6z12 : ICode := .seq (.ops none [⟨(some 35), .p (.pick (.tmp 31) (.tmp 34) (.const (.bool false)))⟩,
 ⟨(some 36), .p (.mv (.tmp 35))⟩])
 (.cut [6, 7, 8, 36] c6z14)
noncomputable def c6z10 : ICode := .seq (.ops (some (31, true)) [⟨(some 32), .p (.mv (.tmp 5))⟩,
 ⟨(some 33), .p (.mv (.tmp 8))⟩,
 ⟨(some 34), .p (.bin .eql (.tmp 32) (.tmp 33))⟩])
 (.cut [6, 7, 8, 31, 34] c6z12)
noncomputable def c6z8 : ICode := .ret
noncomputable def c6z59 : ICode := .ops none [⟨(some 93), .p (.pick (.tmp 91) (.tmp 92) (.const (.bool false)))⟩,
 ⟨(some 2), .p (.mv (.tmp 93))⟩]
noncomputable def c6z57 : ICode := .seq (.ops (some (91, true)) [⟨(some 92), .call 13 []⟩])
 (.cut [91, 92] c6z59)
noncomputable def c6z55 : ICode := .seq (.ops none [⟨(some 90), .p (.pick (.tmp 84) (.tmp 89) (.const (.bool false)))⟩,
 ⟨(some 91), .p (.mv (.tmp 90))⟩])
 (.cut [91] c6z57)
noncomputable def c6z53 : ICode := .seq (.ops (some (84, true)) [⟨(some 89), .p (.pick (.tmp 86) (.const (.bool true)) (.tmp 88))⟩])
 (.cut [84, 89] c6z55)
noncomputable def c6z51 : ICode := .seq (.ops (some (86, false)) [⟨(some 87), .p (.mv (.tmp 7))⟩,
 ⟨(some 88), .p (.bin .eql (.tmp 87) (.const (.int .i64 (5))))⟩])
 (.cut [84, 86, 88] c6z53)
noncomputable def c6z49 : ICode := .seq (.ops (some (84, true)) [⟨(some 85), .p (.mv (.tmp 11))⟩,
 ⟨(some 86), .p (.mv (.tmp 85))⟩])
 (.cut [7, 84, 86] c6z51)
noncomputable def c6z47 : ICode := .seq (.ops none [⟨(some 83), .p (.pick (.tmp 78) (.tmp 82) (.const (.bool false)))⟩,
 ⟨(some 84), .p (.mv (.tmp 83))⟩])
 (.cut [7, 11, 84] c6z49)
noncomputable def c6z45 : ICode := .seq (.ops (some (78, true)) [⟨(some 79), .p (.mv (.tmp 7))⟩,
 ⟨(some 80), .p (.bin .eql (.tmp 79) (.const (.int .i64 (0))))⟩,
 ⟨(some 81), .p (.mv (.tmp 11))⟩,
 ⟨(some 82), .p (.eqb false (.tmp 80) (.tmp 81))⟩])
 (.cut [7, 11, 78, 82] c6z47)
noncomputable def c6z43 : ICode := .seq (.ops none [⟨(some 77), .p (.pick (.tmp 73) (.tmp 76) (.const (.bool false)))⟩,
 ⟨(some 78), .p (.mv (.tmp 77))⟩])
 (.cut [7, 11, 78] c6z45)
noncomputable def c6z41 : ICode := .seq (.ops (some (73, true)) [⟨(some 74), .p (.mv (.tmp 6))⟩,
 ⟨(some 75), .p (.mv (.tmp 10))⟩,
 ⟨(some 76), .p (.bin .eql (.tmp 74) (.tmp 75))⟩])
 (.cut [7, 11, 73, 76] c6z43)
noncomputable def c6z39 : ICode := .seq (.ops none [⟨(some 72), .p (.pick (.tmp 65) (.tmp 71) (.const (.bool false)))⟩,
 ⟨(some 73), .p (.mv (.tmp 72))⟩])
 (.cut [6, 7, 10, 11, 73] c6z41)
noncomputable def c6z37 : ICode := .seq (.ops (some (65, true)) [⟨(some 71), .p (.pick (.tmp 68) (.const (.bool true)) (.tmp 70))⟩])
 (.cut [6, 7, 10, 11, 65, 71] c6z39)
noncomputable def c6z35 : ICode := .seq (.ops (some (68, false)) [⟨(some 69), .p (.mv (.tmp 5))⟩,
 ⟨(some 70), .p (.bin .eql (.tmp 69) (.const (.int .i64 (5))))⟩])
 (.cut [6, 7, 10, 11, 65, 68, 70] c6z37)
noncomputable def c6z33 : ICode := .seq (.ops (some (65, true)) [⟨(some 66), .p (.mv (.tmp 9))⟩,
 ⟨(some 67), .p (.eqnil true (.tmp 66) (.const (.slice none 0 0)))⟩,
 ⟨(some 68), .p (.mv (.tmp 67))⟩])
 (.cut [5, 6, 7, 10, 11, 65, 68] c6z35)
noncomputable def c6z31 : ICode := .seq (.ops none [⟨(some 64), .p (.pick (.tmp 58) (.tmp 63) (.const (.bool false)))⟩,
 ⟨(some 65), .p (.mv (.tmp 64))⟩])
 (.cut [5, 6, 7, 9, 10, 11, 65] c6z33)
noncomputable def c6z29 : ICode := .seq (.ops (some (58, true)) [⟨(some 59), .p (.mv (.tmp 5))⟩,
 ⟨(some 60), .p (.bin .eql (.tmp 59) (.const (.int .i64 (0))))⟩,
 ⟨(some 61), .p (.mv (.tmp 9))⟩,
 ⟨(some 62), .p (.eqnil true (.tmp 61) (.const (.slice none 0 0)))⟩,
 ⟨(some 63), .p (.eqb false (.tmp 60) (.tmp 62))⟩])
 (.cut [5, 6, 7, 9, 10, 11, 58, 63] c6z31)
noncomputable def c6z27 : ICode := .ret
noncomputable def c6z5 : ICode := .seq (.ops none [⟨(some 48), .p (.mv (.tmp 3))⟩,
 ⟨(some 49), .call 22 [(.tmp 48)]⟩,
 ⟨(some 9), .p (.mv (.tmp 49))⟩])
 (.seq (.ops none [⟨(some 51), .p (.mv (.tmp 3))⟩,
 ⟨(some 52), .call 23 [(.tmp 51)]⟩,
 ⟨(some 50), .p (.mv (.tmp 52))⟩,
 ⟨(some 53), .p (.ext (.tmp 50) 0)⟩,
 ⟨(some 54), .p (.ext (.tmp 50) 1)⟩,
 ⟨(some 10), .p (.mv (.tmp 53))⟩,
 ⟨(some 11), .p (.mv (.tmp 54))⟩])
 (.seq (.seq (.ops none [⟨(some 55), .p (.mv (.tmp 4))⟩,
 ⟨(some 56), .p (.mv (.tmp 9))⟩,
 ⟨(some 57), .call 15 [(.tmp 55), (.tmp 56)]⟩,
 ⟨(some 58), .p (.mv (.tmp 57))⟩])
 (.cut [5, 6, 7, 9, 10, 11, 58] c6z29)) c6z27))
noncomputable def c6 : ICode := .seq (.ops none [⟨(some 2), .p (.mv (.const (.bool false)))⟩])
 (.seq (.ops none [⟨(some 12), .p (.mv (.tmp 0))⟩,
 ⟨(some 13), .call 19 [(.tmp 12)]⟩,
 ⟨(some 3), .p (.mv (.tmp 13))⟩])
 (.seq (.ops none [⟨(some 15), .p (.mv (.tmp 3))⟩,
 ⟨(some 16), .call 20 [(.tmp 15)]⟩,
 ⟨(some 14), .p (.mv (.tmp 16))⟩,
 ⟨(some 17), .p (.ext (.tmp 14) 0)⟩,
 ⟨(some 18), .p (.ext (.tmp 14) 1)⟩,
 ⟨(some 4), .p (.mv (.tmp 17))⟩,
 ⟨(some 5), .p (.mv (.tmp 18))⟩])
 (.seq (.ops none [⟨(some 20), .p (.mv (.tmp 3))⟩,
 ⟨(some 21), .call 18 [(.tmp 20)]⟩,
 ⟨(some 19), .p (.mv (.tmp 21))⟩,
 ⟨(some 22), .p (.ext (.tmp 19) 0)⟩,
 ⟨(some 23), .p (.ext (.tmp 19) 1)⟩,
 ⟨(some 6), .p (.mv (.tmp 22))⟩,
 ⟨(some 7), .p (.mv (.tmp 23))⟩])
 (.seq (.seq (.ops none [⟨(some 24), .p (.mv (.tmp 3))⟩,
 ⟨(some 25), .call 21 [(.tmp 24)]⟩,
 ⟨(some 8), .p (.mv (.tmp 25))⟩])
 (.seq (.ops none [⟨(some 26), .p (.mv (.tmp 8))⟩,
 ⟨(some 27), .p (.bin .neq (.tmp 26) (.const (.int .i64 (0))))⟩])
 (.cond (.tmp 27) (.seq (.seq (.ops none [⟨(some 28), .p (.mv (.tmp 4))⟩,
 ⟨(some 29), .p (.lenSl (.tmp 28))⟩,
 ⟨(some 30), .p (.bin .eql (.tmp 29) (.const (.int .i64 (0))))⟩,
 ⟨(some 31), .p (.mv (.tmp 30))⟩])
 (.cut [5, 6, 7, 8, 31] c6z10)) c6z8)
 (.skip)))) c6z5))))
theorem k6 : compFn Tryd.prog 6 [[], [], [], [], [], [], [5, 6, 7, 8, 31], [6, 7, 8, 31, 34], [6, 7, 8, 36], [7, 8, 36, 38], [7, 8, 40], [40, 43], [45], [45, 46], [], [], [], [], [5, 6, 7, 9, 10, 11, 58], [5, 6, 7, 9, 10, 11, 58, 63], [5, 6, 7, 9, 10, 11, 65], [5, 6, 7, 10, 11, 65, 68], [6, 7, 10, 11, 65, 68, 70], [6, 7, 10, 11, 65, 71], [6, 7, 10, 11, 73], [7, 11, 73, 76], [7, 11, 78], [7, 11, 78, 82], [7, 11, 84], [7, 84, 86], [84, 86, 88], [84, 89], [91], [91, 92], []] = some (94, c6, [.tmp 2]) := by kernel_rfl
def K6z0 (_P : Program) (K : VK) : Kont := bodyP [.tmp 2] K
def K6z5 : Kont := thenK (iwpP P c6z5 (K6z0 P K)) (K6z0 P K)
def K6z8 : Kont := thenK (iwpP P c6z8 (K6z5 P K)) (K6z5 P K)
def K6z27 : Kont := thenK (iwpP P c6z27 (K6z0 P K)) (K6z0 P K)
def p6z10 (e5 s6 f7 bad8 x31 : Value) (h : Heap) : Prop := CutP (iwpP P c6z10 (K6z8 P K)) [5, 6, 7, 8, 31] [e5, s6, f7, bad8, x31] h
def p6z12 (s6 f7 bad8 x31 x34 : Value) (h : Heap) : Prop := CutP (iwpP P c6z12 (K6z8 P K)) [6, 7, 8, 31, 34] [s6, f7, bad8, x31, x34] h
def p6z14 (s6 f7 bad8 x36 : Value) (h : Heap) : Prop := CutP (iwpP P c6z14 (K6z8 P K)) [6, 7, 8, 36] [s6, f7, bad8, x36] h
def p6z16 (f7 bad8 x36 x38 : Value) (h : Heap) : Prop := CutP (iwpP P c6z16 (K6z8 P K)) [7, 8, 36, 38] [f7, bad8, x36, x38] h
def p6z18 (f7 bad8 x40 : Value) (h : Heap) : Prop := CutP (iwpP P c6z18 (K6z8 P K)) [7, 8, 40] [f7, bad8, x40] h
def p6z20 (x40 x43 : Value) (h : Heap) : Prop := CutP (iwpP P c6z20 (K6z8 P K)) [40, 43] [x40, x43] h
def p6z22 (x45 : Value) (h : Heap) : Prop := CutP (iwpP P c6z22 (K6z8 P K)) [45] [x45] h
def p6z24 (x45 x46 : Value) (h : Heap) : Prop := CutP (iwpP P c6z24 (K6z8 P K)) [45, 46] [x45, x46] h
def p6z29 (e5 s6 f7 want9 text10 is11 x58 : Value) (h : Heap) : Prop := CutP (iwpP P c6z29 (K6z27 P K)) [5, 6, 7, 9, 10, 11, 58] [e5, s6, f7, want9, text10, is11, x58] h
def p6z31 (e5 s6 f7 want9 text10 is11 x58 x63 : Value) (h : Heap) : Prop := CutP (iwpP P c6z31 (K6z27 P K)) [5, 6, 7, 9, 10, 11, 58, 63] [e5, s6, f7, want9, text10, is11, x58, x63] h
def p6z33 (e5 s6 f7 want9 text10 is11 x65 : Value) (h : Heap) : Prop := CutP (iwpP P c6z33 (K6z27 P K)) [5, 6, 7, 9, 10, 11, 65] [e5, s6, f7, want9, text10, is11, x65] h
def p6z35 (e5 s6 f7 text10 is11 x65 x68 : Value) (h : Heap) : Prop := CutP (iwpP P c6z35 (K6z27 P K)) [5, 6, 7, 10, 11, 65, 68] [e5, s6, f7, text10, is11, x65, x68] h
def p6z37 (s6 f7 text10 is11 x65 x68 x70 : Value) (h : Heap) : Prop := CutP (iwpP P c6z37 (K6z27 P K)) [6, 7, 10, 11, 65, 68, 70] [s6, f7, text10, is11, x65, x68, x70] h
def p6z39 (s6 f7 text10 is11 x65 x71 : Value) (h : Heap) : Prop := CutP (iwpP P c6z39 (K6z27 P K)) [6, 7, 10, 11, 65, 71] [s6, f7, text10, is11, x65, x71] h
def p6z41 (s6 f7 text10 is11 x73 : Value) (h : Heap) : Prop := CutP (iwpP P c6z41 (K6z27 P K)) [6, 7, 10, 11, 73] [s6, f7, text10, is11, x73] h
def p6z43 (f7 is11 x73 x76 : Value) (h : Heap) : Prop := CutP (iwpP P c6z43 (K6z27 P K)) [7, 11, 73, 76] [f7, is11, x73, x76] h
def p6z45 (f7 is11 x78 : Value) (h : Heap) : Prop := CutP (iwpP P c6z45 (K6z27 P K)) [7, 11, 78] [f7, is11, x78] h
def p6z47 (f7 is11 x78 x82 : Value) (h : Heap) : Prop := CutP (iwpP P c6z47 (K6z27 P K)) [7, 11, 78, 82] [f7, is11, x78, x82] h
def p6z49 (f7 is11 x84 : Value) (h : Heap) : Prop := CutP (iwpP P c6z49 (K6z27 P K)) [7, 11, 84] [f7, is11, x84] h
def p6z51 (f7 x84 x86 : Value) (h : Heap) : Prop := CutP (iwpP P c6z51 (K6z27 P K)) [7, 84, 86] [f7, x84, x86] h
def p6z53 (x84 x86 x88 : Value) (h : Heap) : Prop := CutP (iwpP P c6z53 (K6z27 P K)) [84, 86, 88] [x84, x86, x88] h
def p6z55 (x84 x89 : Value) (h : Heap) : Prop := CutP (iwpP P c6z55 (K6z27 P K)) [84, 89] [x84, x89] h
def p6z57 (x91 : Value) (h : Heap) : Prop := CutP (iwpP P c6z57 (K6z27 P K)) [91] [x91] h
def p6z59 (x91 x92 : Value) (h : Heap) : Prop := CutP (iwpP P c6z59 (K6z27 P K)) [91, 92] [x91, x92] h
theorem q6z24 (x45 x46 : Value) (h : Heap) : p6z24 P K x45 x46 h =
 (OP (iPick x45 x46 (.bool false)) fun x47 =>
 K x47 h) := (CutP_def _ _ _ _).trans (by kernel_rfl)
theorem q6z22 (x45 : Value) (h : Heap) : p6z22 P K x45 h =
 (GdP x45 true
 (CallP P 13 [] h fun x46 h_1 =>
 p6z24 P K x45 x46 h_1)
 (p6z24 P K x45 undef h)) := (CutP_def _ _ _ _).trans (by kernel_rfl)
theorem q6z20 (x40 x43 : Value) (h : Heap) : p6z20 P K x40 x43 h =
 (OP (iPick x40 x43 (.bool false)) fun x44 =>
 p6z22 P K x44 h) := (CutP_def _ _ _ _).trans (by kernel_rfl)
theorem q6z18 (f7 bad8 x40 : Value) (h : Heap) : p6z18 P K f7 bad8 x40 h =
 (GdP x40 true
 (OP (iBin .eql f7 bad8) fun x43 =>
 p6z20 P K x40 x43 h)
 (p6z20 P K x40 undef h)) := (CutP_def _ _ _ _).trans (by kernel_rfl)
theorem q6z16 (f7 bad8 x36 x38 : Value) (h : Heap) : p6z16 P K f7 bad8 x36 x38 h =
 (OP (iPick x36 x38 (.bool false)) fun x39 =>
 p6z18 P K f7 bad8 x39 h) := (CutP_def _ _ _ _).trans (by kernel_rfl)
theorem q6z14 (s6 f7 bad8 x36 : Value) (h : Heap) : p6z14 P K s6 f7 bad8 x36 h =
 (GdP x36 true
 (OP (iBin .eql s6 (.string ⟨#[]⟩)) fun x38 =>
 p6z16 P K f7 bad8 x36 x38 h)
 (p6z16 P K f7 bad8 x36 undef h)) := (CutP_def _ _ _ _).trans (by kernel_rfl)
theorem q6z12 (s6 f7 bad8 x31 x34 : Value) (h : Heap) : p6z12 P K s6 f7 bad8 x31 x34 h =
 (OP (iPick x31 x34 (.bool false)) fun x35 =>
 p6z14 P K s6 f7 bad8 x35 h) := (CutP_def _ _ _ _).trans (by kernel_rfl)
theorem q6z10 (e5 s6 f7 bad8 x31 : Value) (h : Heap) : p6z10 P K e5 s6 f7 bad8 x31 h =
 (GdP x31 true
 (OP (iBin .eql e5 bad8) fun x34 =>
 p6z12 P K s6 f7 bad8 x31 x34 h)
 (p6z12 P K s6 f7 bad8 x31 undef h)) := (CutP_def _ _ _ _).trans (by kernel_rfl)
theorem q6z59 (x91 x92 : Value) (h : Heap) : p6z59 P K x91 x92 h =
 (OP (iPick x91 x92 (.bool false)) fun x93 =>
 K x93 h) := (CutP_def _ _ _ _).trans (by kernel_rfl)
theorem q6z57 (x91 : Value) (h : Heap) : p6z57 P K x91 h =
 (GdP x91 true
 (CallP P 13 [] h fun x92 h_1 =>
 p6z59 P K x91 x92 h_1)
 (p6z59 P K x91 undef h)) := (CutP_def _ _ _ _).trans (by kernel_rfl)
theorem q6z55 (x84 x89 : Value) (h : Heap) : p6z55 P K x84 x89 h =
 (OP (iPick x84 x89 (.bool false)) fun x90 =>
 p6z57 P K x90 h) := (CutP_def _ _ _ _).trans (by kernel_rfl)
theorem q6z53 (x84 x86 x88 : Value) (h : Heap) : p6z53 P K x84 x86 x88 h =
 (GdP x84 true
 (OP (iPick x86 (.bool true) x88) fun x89 =>
 p6z55 P K x84 x89 h)
 (p6z55 P K x84 undef h)) := (CutP_def _ _ _ _).trans (by kernel_rfl)
theorem q6z51 (f7 x84 x86 : Value) (h : Heap) : p6z51 P K f7 x84 x86 h =
 (GdP x86 false
 (OP (iBin .eql f7 (.int .i64 (5))) fun x88 =>
 p6z53 P K x84 x86 x88 h)
 (p6z53 P K x84 x86 undef h)) := (CutP_def _ _ _ _).trans (by kernel_rfl)
theorem q6z49 (f7 is11 x84 : Value) (h : Heap) : p6z49 P K f7 is11 x84 h =
 (GdP x84 true
 (p6z51 P K f7 x84 is11 h)
 (p6z51 P K f7 x84 undef h)) := (CutP_def _ _ _ _).trans (by kernel_rfl)
theorem q6z47 (f7 is11 x78 x82 : Value) (h : Heap) : p6z47 P K f7 is11 x78 x82 h =
 (OP (iPick x78 x82 (.bool false)) fun x83 =>
 p6z49 P K f7 is11 x83 h) := (CutP_def _ _ _ _).trans (by kernel_rfl)
theorem q6z45 (f7 is11 x78 : Value) (h : Heap) : p6z45 P K f7 is11 x78 h =
 (GdP x78 true
 (OP (iBin .eql f7 (.int .i64 (0))) fun x80 =>
 OP (iEqb false x80 is11) fun x82 =>
 p6z47 P K f7 is11 x78 x82 h)
 (p6z47 P K f7 is11 x78 undef h)) := (CutP_def _ _ _ _).trans (by kernel_rfl)
theorem q6z43 (f7 is11 x73 x76 : Value) (h : Heap) : p6z43 P K f7 is11 x73 x76 h =
 (OP (iPick x73 x76 (.bool false)) fun x77 =>
 p6z45 P K f7 is11 x77 h) := (CutP_def _ _ _ _).trans (by kernel_rfl)
theorem q6z41 (s6 f7 text10 is11 x73 : Value) (h : Heap) : p6z41 P K s6 f7 text10 is11 x73 h =
 (GdP x73 true
 (OP (iBin .eql s6 text10) fun x76 =>
 p6z43 P K f7 is11 x73 x76 h)
 (p6z43 P K f7 is11 x73 undef h)) := (CutP_def _ _ _ _).trans (by kernel_rfl)
theorem q6z39 (s6 f7 text10 is11 x65 x71 : Value) (h : Heap) : p6z39 P K s6 f7 text10 is11 x65 x71 h =
 (OP (iPick x65 x71 (.bool false)) fun x72 =>
 p6z41 P K s6 f7 text10 is11 x72 h) := (CutP_def _ _ _ _).trans (by kernel_rfl)
theorem q6z37 (s6 f7 text10 is11 x65 x68 x70 : Value) (h : Heap) : p6z37 P K s6 f7 text10 is11 x65 x68 x70 h =
 (GdP x65 true
 (OP (iPick x68 (.bool true) x70) fun x71 =>
 p6z39 P K s6 f7 text10 is11 x65 x71 h)
 (p6z39 P K s6 f7 text10 is11 x65 undef h)) := (CutP_def _ _ _ _).trans (by kernel_rfl)
theorem q6z35 (e5 s6 f7 text10 is11 x65 x68 : Value) (h : Heap) : p6z35 P K e5 s6 f7 text10 is11 x65 x68 h =
 (GdP x68 false
 (OP (iBin .eql e5 (.int .i64 (5))) fun x70 =>
 p6z37 P K s6 f7 text10 is11 x65 x68 x70 h)
 (p6z37 P K s6 f7 text10 is11 x65 x68 undef h)) := (CutP_def _ _ _ _).trans (by kernel_rfl)
theorem q6z33 (e5 s6 f7 want9 text10 is11 x65 : Value) (h : Heap) : p6z33 P K e5 s6 f7 want9 text10 is11 x65 h =
 (GdP x65 true
 (OP (iEqnil true want9 (.slice none 0 0)) fun x67 =>
 p6z35 P K e5 s6 f7 text10 is11 x65 x67 h)
 (p6z35 P K e5 s6 f7 text10 is11 x65 undef h)) := (CutP_def _ _ _ _).trans (by kernel_rfl)
theorem q6z31 (e5 s6 f7 want9 text10 is11 x58 x63 : Value) (h : Heap) : p6z31 P K e5 s6 f7 want9 text10 is11 x58 x63 h =
 (OP (iPick x58 x63 (.bool false)) fun x64 =>
 p6z33 P K e5 s6 f7 want9 text10 is11 x64 h) := (CutP_def _ _ _ _).trans (by kernel_rfl)
theorem q6z29 (e5 s6 f7 want9 text10 is11 x58 : Value) (h : Heap) : p6z29 P K e5 s6 f7 want9 text10 is11 x58 h =
 (GdP x58 true
 (OP (iBin .eql e5 (.int .i64 (0))) fun x60 =>
 OP (iEqnil true want9 (.slice none 0 0)) fun x62 =>
 OP (iEqb false x60 x62) fun x63 =>
 p6z31 P K e5 s6 f7 want9 text10 is11 x58 x63 h)
 (p6z31 P K e5 s6 f7 want9 text10 is11 x58 undef h)) := (CutP_def _ _ _ _).trans (by kernel_rfl)
def T6 (x0 : Value) (h : Heap) : Prop :=
 CallP P 19 [x0] h fun x13 h_1 =>
 CallP P 20 [x13] h_1 fun x16 h_2 =>
 OP (iExt 0 x16) fun x17 =>
 OP (iExt 1 x16) fun x18 =>
 CallP P 18 [x13] h_2 fun x21 h_3 =>
 OP (iExt 0 x21) fun x22 =>
 OP (iExt 1 x21) fun x23 =>
 CallP P 21 [x13] h_3 fun x25 h_4 =>
 OP (iBin .neq x25 (.int .i64 (0))) fun x27 =>
 IfP x27
 (OP (iLenSl x17) fun x29 =>
 OP (iBin .eql x29 (.int .i64 (0))) fun x30 =>
 p6z10 P K x18 x22 x23 x25 x30 h_4)
 (CallP P 22 [x13] h_4 fun x49 h_5 =>
 CallP P 23 [x13] h_5 fun x52 h_6 =>
 OP (iExt 0 x52) fun x53 =>
 OP (iExt 1 x52) fun x54 =>
 CallP P 15 [x17, x49] h_6 fun x57 h_7 =>
 p6z29 P K x18 x22 x23 x49 x53 x54 x57 h_7)
theorem e6 (x0 : Value) (h : Heap) : iwpP P c6 (bodyP [.tmp 2] K) (frame0 [x0]) h = T6 P K x0 h := by kernel_rfl
theorem f6 {K : VK} {x0 : Value} {h : Heap} (H : T6 Tryd.prog K x0 h) : CallP Tryd.prog 6 [x0] h K :=
 callP_intro k6 (Nat.le_of_ble_eq_true rfl) ((e6 Tryd.prog K x0 h).mpr H)
/-! F19: pommel/pommellaw08.words -/
noncomputable def c19z12 : ICode := .ops none [⟨(some 13), .p (.pick (.tmp 10) (.tmp 12) (.const (.bool false)))⟩]
noncomputable def c19z10 : ICode := .seq (.ops (some (10, true)) [⟨(some 11), .p (.mv (.tmp 4))⟩,
 ⟨(some 12), .p (.bin .leq (.tmp 11) (.const (.int .i64 (12))))⟩])
 (.cut [0, 3, 4, 10, 12] c19z12)
noncomputable def c19z8 : ICode := .cond (.tmp 13) (.skip)
 (.exit 0)
noncomputable def c19z7 : ICode := .seq (.block 1 (.dops [(none, [⟨(some 16), .p (.mv (.tmp 3)), 0⟩,
 ⟨(some 17), .p (.mv (.tmp 0)), 0⟩,
 ⟨(some 18), .p (.mv (.tmp 4)), 0⟩,
 ⟨(some 19), .p (.adrSl 1 (.tmp 17) (.tmp 18)), 6⟩,
 ⟨(some 20), .l (.load false 1 (.tmp 19)), 14⟩,
 ⟨(some 21), .p (.mv (.tmp 0)), 0⟩,
 ⟨(some 22), .p (.mv (.tmp 4)), 0⟩,
 ⟨(some 23), .p (.adrSl 1 (.tmp 21) (.tmp 22)), 96⟩,
 ⟨(some 24), .l (.load false 1 (.tmp 23)), 224⟩,
 ⟨(some 25), .p (.lenS (.tmp 24)), 480⟩,
 ⟨(some 26), .p (.minmax false [(.tmp 25), (.const (.int .i64 (11)))]), 992⟩,
 ⟨(some 27), .p (.slS (.tmp 20) none (some (.tmp 26))), 2046⟩,
 ⟨(some 28), .e (.mkSl 9 1 [(.string ⟨#[]⟩)] [(0, 1, (.tmp 27))]), 4094⟩,
 ⟨(some 29), .e (.app 9 1 16 (.tmp 16) (.tmp 28)), 8191⟩,
 ⟨(some 3), .p (.mv (.tmp 29)), 16383⟩])]))
 (.ops none [⟨(some 14), .p (.mv (.tmp 4))⟩,
 ⟨(some 15), .p (.bin .add (.tmp 14) (.const (.int .i64 (1))))⟩,
 ⟨(some 4), .p (.mv (.tmp 15))⟩])
noncomputable def c19z6 : ICode := .seq (.seq (.seq (.ops none [⟨(some 6), .p (.mv (.tmp 4))⟩,
 ⟨(some 7), .p (.mv (.tmp 0))⟩,
 ⟨(some 8), .p (.lenSl (.tmp 7))⟩,
 ⟨(some 9), .p (.bin .lss (.tmp 6) (.tmp 8))⟩,
 ⟨(some 10), .p (.mv (.tmp 9))⟩])
 (.cut [0, 3, 4, 10] c19z10)) c19z8) c19z7
noncomputable def c19z15 : ICode := .seq (.ops none [⟨(some 30), .p (.mv (.tmp 3))⟩,
 ⟨(some 2), .p (.mv (.tmp 30))⟩])
 (.ret)
noncomputable def c19z3 : ICode := .cut [3] c19z15
noncomputable def c19 : ICode := .seq (.ops none [⟨(some 2), .p (.mv (.const (.slice none 0 0)))⟩])
 (.seq (.ops none [⟨(some 5), .e (.mkSl 9 0 [(.string ⟨#[]⟩)] [])⟩,
 ⟨(some 3), .p (.mv (.tmp 5))⟩])
 (.seq (.seq (.ops none [⟨(some 4), .p (.mv (.const (.int .i64 (0))))⟩])
 (.block 0 (.loop [0] [3, 4] c19z6))) c19z3))
theorem k19 : compFn Tryd.prog 19 [[], [], [], [0], [3, 4], [0, 3, 4, 10], [0, 3, 4, 10, 12], [], [], [], [3], []] = some (31, c19, [.tmp 2]) := by kernel_rfl
def K19z0 (_P : Program) (K : VK) : Kont := bodyP [.tmp 2] K
def K19z3 : Kont := thenK (iwpP P c19z3 (K19z0 P K)) (K19z0 P K)
def K19z5 : Kont := inBlockK 0 (K19z3 P K)
def K19z6 (x0 : Value) (L1 : LK) : Kont := thenK (fun f' h'' => (([0] : List Nat).map f' : List Value) = [x0] ∧ L1 (([3, 4] : List Nat).map f') h'') (K19z5 P K)
def K19z7 (x0 : Value) (L1 : LK) : Kont := thenK (iwpP P c19z7 (K19z6 P K x0 L1)) (K19z6 P K x0 L1)
def K19z8 (x0 : Value) (L1 : LK) : Kont := thenK (iwpP P c19z8 (K19z7 P K x0 L1)) (K19z7 P K x0 L1)
def p19z6 (x0 : Value) (L1 : LK) (xs : List Value) (h : Heap) : Prop := CutP (iwpP P c19z6 (K19z6 P K x0 L1)) ([0] ++ [3, 4]) ([x0] ++ xs) h
def p19z10 (x0 out3 i4 x10 : Value) (L1 : LK) (h : Heap) : Prop := CutP (iwpP P c19z10 (K19z8 P K x0 L1)) [0, 3, 4, 10] [x0, out3, i4, x10] h
def p19z12 (x0 out3 i4 x10 x12 : Value) (L1 : LK) (h : Heap) : Prop := CutP (iwpP P c19z12 (K19z8 P K x0 L1)) [0, 3, 4, 10, 12] [x0, out3, i4, x10, x12] h
def p19z15 (out3 : Value) (h : Heap) : Prop := CutP (iwpP P c19z15 (K19z0 P K)) [3] [out3] h
theorem q19z12 (x0 out3 i4 x10 x12 : Value) (L1 : LK) (h : Heap) : p19z12 P K x0 out3 i4 x10 x12 L1 h =
 (OP (iPick x10 x12 (.bool false)) fun x13 =>
 IfP x13
 (OP (iAdrSl 1 x0 i4) fun x19 =>
 OP (iLoad false 1 h x19) fun x20 =>
 (True) ∧
 OP (iAdrSl 1 x0 i4) fun x23 =>
 OP (iLoad false 1 h x23) fun x24 =>
 (True) ∧
 OP (iLenS x24) fun x25 =>
 OP (iMinmax false [x25, (.int .i64 (11))]) fun x26 =>
 OP (iSlS x20 none (some x26)) fun x27 =>
 OH (iMkSl 9 1 [(.string ⟨#[]⟩)] h [(0, 1, x27)]) fun x28 h_1 =>
 (True) ∧
 OH (iApp 9 1 16 h_1 out3 x28) fun x29 h_2 =>
 (True) ∧
 OP (iBin .add i4 (.int .i64 (1))) fun x15 =>
 ([x0] : List Value) = [x0] ∧ L1 [x29, x15] h_2)
 (p19z15 P K out3 h)) := (CutP_def _ _ _ _).trans (by kernel_rfl)
theorem q19z10 (x0 out3 i4 x10 : Value) (L1 : LK) (h : Heap) : p19z10 P K x0 out3 i4 x10 L1 h =
 (GdP x10 true
 (OP (iBin .leq i4 (.int .i64 (12))) fun x12 =>
 p19z12 P K x0 out3 i4 x10 x12 L1 h)
 (p19z12 P K x0 out3 i4 x10 undef L1 h)) := (CutP_def _ _ _ _).trans (by kernel_rfl)
theorem q19z6 (x0 : Value) (L1 : LK) (out3 i4 : Value) (h : Heap) : p19z6 P K x0 L1 [out3, i4] h =
 (OP (iLenSl x0) fun x8 =>
 OP (iBin .lss i4 x8) fun x9 =>
 p19z10 P K x0 out3 i4 x9 L1 h) := (CutP_def _ _ _ _).trans (by kernel_rfl)
theorem q19z15 (out3 : Value) (h : Heap) : p19z15 P K out3 h =
 (K out3 h) := (CutP_def _ _ _ _).trans (by kernel_rfl)
def T19 (x0 : Value) (h : Heap) : Prop :=
 OH (iMkSl 9 0 [(.string ⟨#[]⟩)] h []) fun x5 h_1 =>
 LoopP [x5, (.int .i64 (0))] h_1 fun L1 xs hx =>
 p19z6 P K x0 L1 xs hx
theorem e19 (x0 : Value) (h : Heap) : iwpP P c19 (bodyP [.tmp 2] K) (frame0 [x0]) h = T19 P K x0 h := by kernel_rfl
theorem f19 {K : VK} {x0 : Value} {h : Heap} (H : T19 Tryd.prog K x0 h) : CallP Tryd.prog 19 [x0] h K :=
 callP_intro k19 (Nat.le_of_ble_eq_true rfl) ((e19 Tryd.prog K x0 h).mpr H)
/-! F23: pommel/pommelref08.Unclear -/
noncomputable def c23z19 : ICode := .ops none [⟨(some 24), .p (.mv (.tmp 6))⟩,
 ⟨(some 25), .p (.bin .add (.tmp 24) (.const (.int .i64 (1))))⟩,
 ⟨(some 6), .p (.mv (.tmp 25))⟩]
noncomputable def c23z13 : ICode := .seq (.seq (.ops none [⟨(some 20), .p (.mv (.tmp 6))⟩,
 ⟨(some 21), .p (.mv (.tmp 0))⟩,
 ⟨(some 22), .p (.lenSl (.tmp 21))⟩,
 ⟨(some 23), .p (.bin .lss (.tmp 20) (.tmp 22))⟩])
 (.cond (.tmp 23) (.skip)
 (.exit 2)))
 (.seq (.block 3 (.seq (.dops [(none, [⟨(some 26), .p (.mv (.tmp 5)), 0⟩,
 ⟨(some 27), .p (.mv (.tmp 6)), 0⟩,
 ⟨(some 28), .p (.bin .neq (.tmp 26) (.tmp 27)), 3⟩,
 ⟨(some 29), .p (.mv (.tmp 28)), 7⟩]),
 ((some (29, true)), [⟨(some 30), .p (.mv (.tmp 0)), 15⟩,
 ⟨(some 31), .p (.mv (.tmp 5)), 15⟩,
 ⟨(some 32), .p (.adrSl 1 (.tmp 30) (.tmp 31)), 63⟩,
 ⟨(some 33), .l (.load false 1 (.tmp 32)), 127⟩,
 ⟨(some 34), .p (.mv (.tmp 0)), 15⟩,
 ⟨(some 35), .p (.mv (.tmp 6)), 15⟩,
 ⟨(some 36), .p (.adrSl 1 (.tmp 34) (.tmp 35)), 783⟩,
 ⟨(some 37), .l (.load false 1 (.tmp 36)), 1807⟩,
 ⟨(some 38), .call 41 [(.tmp 33), (.tmp 37)], 4095⟩]),
 (none, [⟨(some 39), .p (.pick (.tmp 29) (.tmp 38) (.const (.bool false))), 8191⟩])])
 (.cond (.tmp 39) (.dops [(none, [⟨(some 40), .p (.mv (.tmp 4)), 0⟩,
 ⟨(some 41), .p (.mv (.tmp 0)), 0⟩,
 ⟨(some 42), .p (.mv (.tmp 6)), 0⟩,
 ⟨(some 43), .p (.adrSl 1 (.tmp 41) (.tmp 42)), 6⟩,
 ⟨(some 44), .l (.load false 1 (.tmp 43)), 14⟩,
 ⟨(some 45), .p (.mv (.tmp 0)), 0⟩,
 ⟨(some 46), .p (.mv (.tmp 5)), 0⟩,
 ⟨(some 47), .p (.adrSl 1 (.tmp 45) (.tmp 46)), 96⟩,
 ⟨(some 48), .l (.load false 1 (.tmp 47)), 224⟩,
 ⟨(some 49), .p (.lenS (.tmp 48)), 480⟩,
 ⟨(some 50), .p (.slS (.tmp 44) (some (.tmp 49)) none), 1022⟩,
 ⟨(some 51), .p (.mv (.tmp 0)), 0⟩,
 ⟨(some 52), .p (.mv (.tmp 6)), 0⟩,
 ⟨(some 53), .p (.adrSl 1 (.tmp 51) (.tmp 52)), 6144⟩,
 ⟨(some 54), .l (.load false 1 (.tmp 53)), 14336⟩,
 ⟨(some 55), .call 42 [(.tmp 40), (.tmp 50), (.tmp 54)], 32767⟩])])
 (.skip))))
 (.cut [0, 4, 5, 6] c23z19))
noncomputable def c23z20 : ICode := .ops none [⟨(some 18), .p (.mv (.tmp 5))⟩,
 ⟨(some 19), .p (.bin .add (.tmp 18) (.const (.int .i64 (1))))⟩,
 ⟨(some 5), .p (.mv (.tmp 19))⟩]
noncomputable def c23z9 : ICode := .cut [0, 4, 5] c23z20
noncomputable def c23z6 : ICode := .seq (.seq (.ops none [⟨(some 14), .p (.mv (.tmp 5))⟩,
 ⟨(some 15), .p (.mv (.tmp 0))⟩,
 ⟨(some 16), .p (.lenSl (.tmp 15))⟩,
 ⟨(some 17), .p (.bin .lss (.tmp 14) (.tmp 16))⟩])
 (.cond (.tmp 17) (.skip)
 (.exit 0)))
 (.seq (.block 1 (.seq (.ops none [⟨(some 6), .p (.mv (.const (.int .i64 (0))))⟩])
 (.block 2 (.loop [0, 4, 5] [6] c23z13)))) c23z9)
noncomputable def c23z51 : ICode := .ops none [⟨(some 91), .p (.pick (.tmp 89) (.const (.bool true)) (.tmp 90))⟩,
 ⟨(some 7), .p (.mv (.tmp 91))⟩]
noncomputable def c23z49 : ICode := .seq (.ops (some (89, false)) [⟨(some 90), .p (.mv (.tmp 7))⟩])
 (.cut [0, 4, 8, 9, 10, 58, 89, 90] c23z51)
noncomputable def c23z53 : ICode := .ops none [⟨(some 70), .p (.mv (.tmp 10))⟩,
 ⟨(some 71), .p (.bin .add (.tmp 70) (.const (.int .i64 (1))))⟩,
 ⟨(some 10), .p (.mv (.tmp 71))⟩]
noncomputable def c23z44 : ICode := .cut [0, 4, 7, 8, 9, 10, 58] c23z53
noncomputable def c23z41 : ICode := .seq (.seq (.ops none [⟨(some 66), .p (.mv (.tmp 10))⟩,
 ⟨(some 67), .p (.mv (.tmp 0))⟩,
 ⟨(some 68), .p (.lenSl (.tmp 67))⟩,
 ⟨(some 69), .p (.bin .lss (.tmp 66) (.tmp 68))⟩])
 (.cond (.tmp 69) (.skip)
 (.exit 8)))
 (.seq (.block 9 (.block 10 (.seq (.ops none [⟨(some 73), .p (.mv (.tmp 0))⟩,
 ⟨(some 74), .p (.mv (.tmp 10))⟩,
 ⟨(some 75), .p (.adrSl 1 (.tmp 73) (.tmp 74))⟩,
 ⟨(some 76), .l (.load false 1 (.tmp 75))⟩,
 ⟨(some 77), .p (.mv (.tmp 8))⟩,
 ⟨(some 78), .call 41 [(.tmp 76), (.tmp 77)]⟩,
 ⟨(some 72), .p (.mv (.tmp 78))⟩])
 (.cond (.tmp 72) (.seq (.ops none [⟨(some 79), .p (.mv (.tmp 4))⟩,
 ⟨(some 80), .p (.mv (.tmp 8))⟩,
 ⟨(some 81), .p (.mv (.tmp 0))⟩,
 ⟨(some 82), .p (.mv (.tmp 10))⟩,
 ⟨(some 83), .p (.adrSl 1 (.tmp 81) (.tmp 82))⟩,
 ⟨(some 84), .l (.load false 1 (.tmp 83))⟩,
 ⟨(some 85), .p (.lenS (.tmp 84))⟩,
 ⟨(some 86), .p (.slS (.tmp 80) (some (.tmp 85)) none)⟩,
 ⟨(some 87), .p (.mv (.tmp 9))⟩,
 ⟨(some 88), .call 42 [(.tmp 79), (.tmp 86), (.tmp 87)]⟩,
 ⟨(some 89), .p (.mv (.tmp 88))⟩])
 (.cut [0, 4, 7, 8, 9, 10, 58, 89] c23z49))
 (.seq (.ops none [⟨(some 93), .p (.mv (.tmp 8))⟩,
 ⟨(some 94), .p (.mv (.tmp 0))⟩,
 ⟨(some 95), .p (.mv (.tmp 10))⟩,
 ⟨(some 96), .p (.adrSl 1 (.tmp 94) (.tmp 95))⟩,
 ⟨(some 97), .l (.load false 1 (.tmp 96))⟩,
 ⟨(some 98), .call 41 [(.tmp 93), (.tmp 97)]⟩,
 ⟨(some 92), .p (.mv (.tmp 98))⟩])
 (.cond (.tmp 92) (.dops [(none, [⟨(some 99), .p (.mv (.tmp 4)), 0⟩,
 ⟨(some 100), .p (.mv (.tmp 0)), 0⟩,
 ⟨(some 101), .p (.mv (.tmp 10)), 0⟩,
 ⟨(some 102), .p (.adrSl 1 (.tmp 100) (.tmp 101)), 6⟩,
 ⟨(some 103), .l (.load false 1 (.tmp 102)), 14⟩,
 ⟨(some 104), .p (.mv (.tmp 8)), 0⟩,
 ⟨(some 105), .p (.lenS (.tmp 104)), 32⟩,
 ⟨(some 106), .p (.slS (.tmp 103) (some (.tmp 105)) none), 126⟩,
 ⟨(some 107), .p (.mv (.tmp 9)), 0⟩,
 ⟨(some 108), .p (.mv (.tmp 0)), 0⟩,
 ⟨(some 109), .p (.mv (.tmp 10)), 0⟩,
 ⟨(some 110), .p (.adrSl 1 (.tmp 108) (.tmp 109)), 1536⟩,
 ⟨(some 111), .l (.load false 1 (.tmp 110)), 3584⟩,
 ⟨(some 112), .p (.mv (.tmp 8)), 0⟩,
 ⟨(some 113), .p (.lenS (.tmp 112)), 8192⟩,
 ⟨(some 114), .p (.slS (.tmp 111) (some (.tmp 113)) none), 32256⟩,
 ⟨(some 115), .p (.bin .add (.tmp 107) (.tmp 114)), 65280⟩,
 ⟨(some 116), .call 42 [(.tmp 99), (.tmp 106), (.tmp 115)], 131071⟩,
 ⟨(some 117), .p (.mv (.tmp 116)), 262143⟩]),
 ((some (117, false)), [⟨(some 118), .p (.mv (.tmp 7)), 524287⟩]),
 (none, [⟨(some 119), .p (.pick (.tmp 117) (.const (.bool true)) (.tmp 118)), 1048575⟩,
 ⟨(some 7), .p (.mv (.tmp 119)), 2097151⟩])])
 (.skip))))))) c23z44)
noncomputable def c23z32 : ICode := .seq (.ops none [⟨(some 59), .e (.next (.tmp 58))⟩,
 ⟨(some 60), .p (.ext (.tmp 59) 0)⟩])
 (.seq (.cond (.tmp 60) (.skip)
 (.exit 6))
 (.block 7 (.seq (.ops none [⟨(some 61), .l (.entry (.tmp 58))⟩,
 ⟨(some 62), .p (.ext (.tmp 61) 0)⟩,
 ⟨(some 63), .p (.ext (.tmp 61) 1)⟩,
 ⟨(some 8), .p (.mv (.tmp 62))⟩,
 ⟨(some 9), .p (.mv (.tmp 63))⟩])
 (.seq (.seq (.ops none [⟨(some 64), .p (.mv (.tmp 8))⟩,
 ⟨(some 65), .p (.bin .eql (.tmp 64) (.const (.string ⟨#[]⟩)))⟩])
 (.cond (.tmp 65) (.exit 7)
 (.skip)))
 (.seq (.ops none [⟨(some 10), .p (.mv (.const (.int .i64 (0))))⟩])
 (.block 8 (.loop [0, 4, 8, 9, 58] [7, 10] c23z41)))))))
noncomputable def c23z25 : ICode := .seq (.seq (.ops none [⟨(some 56), .p (.mv (.tmp 7))⟩])
 (.cond (.tmp 56) (.skip)
 (.exit 4)))
 (.block 5 (.seq (.ops none [⟨(some 7), .p (.mv (.const (.bool false)))⟩])
 (.seq (.ops none [⟨(some 57), .p (.mv (.tmp 4))⟩,
 ⟨(some 58), .e (.rangeG (.tmp 57))⟩])
 (.block 6 (.loop [0, 4, 58] [7] c23z32)))))
noncomputable def c23z54 : ICode := .seq (.ops none [⟨(some 121), .p (.mv (.tmp 4))⟩,
 ⟨(some 122), .l (.lookupG .str true (.string ⟨#[]⟩) (.tmp 121) (.const (.string ⟨#[]⟩)))⟩,
 ⟨(some 120), .p (.mv (.tmp 122))⟩,
 ⟨(some 123), .p (.ext (.tmp 120) 0)⟩,
 ⟨(some 124), .p (.ext (.tmp 120) 1)⟩,
 ⟨(some 11), .p (.mv (.tmp 123))⟩,
 ⟨(some 12), .p (.mv (.tmp 124))⟩])
 (.seq (.ops none [⟨(some 125), .p (.mv (.tmp 11))⟩,
 ⟨(some 126), .p (.mv (.tmp 12))⟩,
 ⟨(some 2), .p (.mv (.tmp 125))⟩,
 ⟨(some 3), .p (.mv (.tmp 126))⟩])
 (.ret))
noncomputable def c23z22 : ICode := .cut [4] c23z54
noncomputable def c23z21 : ICode := .seq (.seq (.ops none [⟨(some 7), .p (.mv (.const (.bool true)))⟩])
 (.block 4 (.loop [0, 4] [7] c23z25))) c23z22
noncomputable def c23z3 : ICode := .cut [0, 4] c23z21
noncomputable def c23 : ICode := .seq (.ops none [⟨(some 2), .p (.mv (.const (.string ⟨#[]⟩)))⟩,
 ⟨(some 3), .p (.mv (.const (.bool false)))⟩])
 (.seq (.ops none [⟨(some 13), .e (.mkMapG .str)⟩,
 ⟨(some 4), .p (.mv (.tmp 13))⟩])
 (.seq (.seq (.ops none [⟨(some 5), .p (.mv (.const (.int .i64 (0))))⟩])
 (.block 0 (.loop [0, 4] [5] c23z6))) c23z3))
theorem k23 : compFn Tryd.prog 23 [[], [], [], [0, 4], [5], [], [], [], [0, 4, 5], [6], [], [], [], [0, 4, 5, 6], [0, 4, 5], [0, 4], [], [0, 4], [7], [], [], [], [], [0, 4, 58], [7], [], [], [], [], [], [], [0, 4, 8, 9, 58], [7, 10], [], [], [], [0, 4, 7, 8, 9, 10, 58, 89], [0, 4, 8, 9, 10, 58, 89, 90], [], [0, 4, 7, 8, 9, 10, 58], [4], [], []] = some (127, c23, [.tmp 2, .tmp 3]) := by kernel_rfl
def K23z0 (_P : Program) (K : VK) : Kont := bodyP [.tmp 2, .tmp 3] K
def K23z3 : Kont := thenK (iwpNP P c23z3 (K23z0 P K)) (K23z0 P K)
def K23z5 : Kont := inBlockK 0 (K23z3 P K)
def K23z6 (l0 best4 : Value) (L1 : LK) : Kont := thenK (fun f' h'' => (([0, 4] : List Nat).map f' : List Value) = [l0, best4] ∧ L1 (([5] : List Nat).map f') h'') (K23z5 P K)
def K23z9 (l0 best4 : Value) (L1 : LK) : Kont := thenK (iwpNP P c23z9 (K23z6 P K l0 best4 L1)) (K23z6 P K l0 best4 L1)
def K23z10 (l0 best4 : Value) (L1 : LK) : Kont := inBlockK 1 (K23z9 P K l0 best4 L1)
def K23z12 (l0 best4 : Value) (L1 : LK) : Kont := inBlockK 2 (K23z10 P K l0 best4 L1)
def K23z13 (l0 best4 i5 : Value) (L1 L2 : LK) : Kont := thenK (fun f' h'' => (([0, 4, 5] : List Nat).map f' : List Value) = [l0, best4, i5] ∧ L2 (([6] : List Nat).map f') h'') (K23z12 P K l0 best4 L1)
def K23z22 : Kont := thenK (iwpNP P c23z22 (K23z0 P K)) (K23z0 P K)
def K23z24 : Kont := inBlockK 4 (K23z22 P K)
def K23z25 (l0 best4 : Value) (L1 : LK) : Kont := thenK (fun f' h'' => (([0, 4] : List Nat).map f' : List Value) = [l0, best4] ∧ L1 (([7] : List Nat).map f') h'') (K23z24 P K)
def K23z28 (l0 best4 : Value) (L1 : LK) : Kont := inBlockK 5 (K23z25 P K l0 best4 L1)
def K23z31 (l0 best4 : Value) (L1 : LK) : Kont := inBlockK 6 (K23z28 P K l0 best4 L1)
def K23z32 (l0 best4 x58 : Value) (L1 L2 : LK) : Kont := thenK (fun f' h'' => (([0, 4, 58] : List Nat).map f' : List Value) = [l0, best4, x58] ∧ L2 (([7] : List Nat).map f') h'') (K23z31 P K l0 best4 L1)
def K23z35 (l0 best4 x58 : Value) (L1 L2 : LK) : Kont := inBlockK 7 (K23z32 P K l0 best4 x58 L1 L2)
def K23z40 (l0 best4 x58 : Value) (L1 L2 : LK) : Kont := inBlockK 8 (K23z35 P K l0 best4 x58 L1 L2)
def K23z41 (l0 best4 ahead8 text9 x58 : Value) (L1 L2 L3 : LK) : Kont := thenK (fun f' h'' => (([0, 4, 8, 9, 58] : List Nat).map f' : List Value) = [l0, best4, ahead8, text9, x58] ∧ L3 (([7, 10] : List Nat).map f') h'') (K23z40 P K l0 best4 x58 L1 L2)
def K23z44 (l0 best4 ahead8 text9 x58 : Value) (L1 L2 L3 : LK) : Kont := thenK (iwpNP P c23z44 (K23z41 P K l0 best4 ahead8 text9 x58 L1 L2 L3)) (K23z41 P K l0 best4 ahead8 text9 x58 L1 L2 L3)
def K23z45 (l0 best4 ahead8 text9 x58 : Value) (L1 L2 L3 : LK) : Kont := inBlockK 9 (K23z44 P K l0 best4 ahead8 text9 x58 L1 L2 L3)
def K23z46 (l0 best4 ahead8 text9 x58 : Value) (L1 L2 L3 : LK) : Kont := inBlockK 10 (K23z45 P K l0 best4 ahead8 text9 x58 L1 L2 L3)
def p23z6 (l0 best4 : Value) (L1 : LK) (xs : List Value) (h : Heap) : Prop := CutP (iwpNP P c23z6 (K23z6 P K l0 best4 L1)) ([0, 4] ++ [5]) ([l0, best4] ++ xs) h
def p23z13 (l0 best4 i5 : Value) (L1 L2 : LK) (xs : List Value) (h : Heap) : Prop := CutP (iwpNP P c23z13 (K23z13 P K l0 best4 i5 L1 L2)) ([0, 4, 5] ++ [6]) ([l0, best4, i5] ++ xs) h
def p23z19 (l0 best4 i5 j6 : Value) (L1 L2 : LK) (h : Heap) : Prop := CutP (iwpNP P c23z19 (K23z13 P K l0 best4 i5 L1 L2)) [0, 4, 5, 6] [l0, best4, i5, j6] h
def p23z20 (l0 best4 i5 : Value) (L1 : LK) (h : Heap) : Prop := CutP (iwpNP P c23z20 (K23z6 P K l0 best4 L1)) [0, 4, 5] [l0, best4, i5] h
def p23z21 (l0 best4 : Value) (h : Heap) : Prop := CutP (iwpNP P c23z21 (K23z0 P K)) [0, 4] [l0, best4] h
def p23z25 (l0 best4 : Value) (L1 : LK) (xs : List Value) (h : Heap) : Prop := CutP (iwpNP P c23z25 (K23z25 P K l0 best4 L1)) ([0, 4] ++ [7]) ([l0, best4] ++ xs) h
def p23z32 (l0 best4 x58 : Value) (L1 L2 : LK) (xs : List Value) (h : Heap) : Prop := CutP (iwpNP P c23z32 (K23z32 P K l0 best4 x58 L1 L2)) ([0, 4, 58] ++ [7]) ([l0, best4, x58] ++ xs) h
def p23z41 (l0 best4 ahead8 text9 x58 : Value) (L1 L2 L3 : LK) (xs : List Value) (h : Heap) : Prop := CutP (iwpNP P c23z41 (K23z41 P K l0 best4 ahead8 text9 x58 L1 L2 L3)) ([0, 4, 8, 9, 58] ++ [7, 10]) ([l0, best4, ahead8, text9, x58] ++ xs) h
def p23z49 (l0 best4 changed7 ahead8 text9 i10 x58 x89 : Value) (L1 L2 L3 : LK) (h : Heap) : Prop := CutP (iwpNP P c23z49 (K23z46 P K l0 best4 ahead8 text9 x58 L1 L2 L3)) [0, 4, 7, 8, 9, 10, 58, 89] [l0, best4, changed7, ahead8, text9, i10, x58, x89] h
def p23z51 (l0 best4 ahead8 text9 i10 x58 x89 x90 : Value) (L1 L2 L3 : LK) (h : Heap) : Prop := CutP (iwpNP P c23z51 (K23z46 P K l0 best4 ahead8 text9 x58 L1 L2 L3)) [0, 4, 8, 9, 10, 58, 89, 90] [l0, best4, ahead8, text9, i10, x58, x89, x90] h
def p23z53 (l0 best4 changed7 ahead8 text9 i10 x58 : Value) (L1 L2 L3 : LK) (h : Heap) : Prop := CutP (iwpNP P c23z53 (K23z41 P K l0 best4 ahead8 text9 x58 L1 L2 L3)) [0, 4, 7, 8, 9, 10, 58] [l0, best4, changed7, ahead8, text9, i10, x58] h
def p23z54 (best4 : Value) (h : Heap) : Prop := CutP (iwpNP P c23z54 (K23z0 P K)) [4] [best4] h
theorem q23z19 (l0 best4 i5 j6 : Value) (L1 L2 : LK) (h : Heap) : p23z19 P K l0 best4 i5 j6 L1 L2 h =
 (OP (iBin .add j6 (.int .i64 (1))) fun x25 =>
 ([l0, best4, i5] : List Value) = [l0, best4, i5] ∧ L2 [x25] h) := (CutP_def _ _ _ _).trans (by kernel_rfl)
theorem q23z13 (l0 best4 i5 : Value) (L1 L2 : LK) (j6 : Value) (h : Heap) : p23z13 P K l0 best4 i5 L1 L2 [j6] h =
 (OP (iLenSl l0) fun x22 =>
 OP (iBin .lss j6 x22) fun x23 =>
 IfP x23
 (OP (iBin .neq i5 j6) fun x28 =>
 GdP x28 true
 (OP (iAdrSl 1 l0 i5) fun x32 =>
 OP (iLoad false 1 h x32) fun x33 =>
 (True) ∧
 OP (iAdrSl 1 l0 j6) fun x36 =>
 OP (iLoad false 1 h x36) fun x37 =>
 (True) ∧
 CallP P 41 [x33, x37] h fun x38 h_1 =>
 (True) ∧
 OP (iPick x28 x38 (.bool false)) fun x39 =>
 IfP x39
 (OP (iAdrSl 1 l0 j6) fun x43 =>
 OP (iLoad false 1 h_1 x43) fun x44 =>
 (True) ∧
 OP (iAdrSl 1 l0 i5) fun x47 =>
 OP (iLoad false 1 h_1 x47) fun x48 =>
 (True) ∧
 OP (iLenS x48) fun x49 =>
 OP (iSlS x44 (some x49) none) fun x50 =>
 OP (iAdrSl 1 l0 j6) fun x53 =>
 OP (iLoad false 1 h_1 x53) fun x54 =>
 (True) ∧
 CallP P 42 [best4, x50, x54] h_1 fun x55 h_2 =>
 (True) ∧
 p23z19 P K l0 best4 i5 j6 L1 L2 h_2)
 (p23z19 P K l0 best4 i5 j6 L1 L2 h_1))
 ((True) ∧
 OP (iPick x28 undef (.bool false)) fun x39 =>
 IfP x39
 (OP (iAdrSl 1 l0 j6) fun x43 =>
 OP (iLoad false 1 h x43) fun x44 =>
 (True) ∧
 OP (iAdrSl 1 l0 i5) fun x47 =>
 OP (iLoad false 1 h x47) fun x48 =>
 (True) ∧
 OP (iLenS x48) fun x49 =>
 OP (iSlS x44 (some x49) none) fun x50 =>
 OP (iAdrSl 1 l0 j6) fun x53 =>
 OP (iLoad false 1 h x53) fun x54 =>
 (True) ∧
 CallP P 42 [best4, x50, x54] h fun x55 h_1 =>
 (True) ∧
 p23z19 P K l0 best4 i5 j6 L1 L2 h_1)
 (p23z19 P K l0 best4 i5 j6 L1 L2 h)))
 (p23z20 P K l0 best4 i5 L1 h)) := (CutP_def _ _ _ _).trans (by kernel_rfl)
theorem q23z20 (l0 best4 i5 : Value) (L1 : LK) (h : Heap) : p23z20 P K l0 best4 i5 L1 h =
 (OP (iBin .add i5 (.int .i64 (1))) fun x19 =>
 ([l0, best4] : List Value) = [l0, best4] ∧ L1 [x19] h) := (CutP_def _ _ _ _).trans (by kernel_rfl)
theorem q23z6 (l0 best4 : Value) (L1 : LK) (i5 : Value) (h : Heap) : p23z6 P K l0 best4 L1 [i5] h =
 (OP (iLenSl l0) fun x16 =>
 OP (iBin .lss i5 x16) fun x17 =>
 IfP x17
 (LoopP [(.int .i64 (0))] h fun L2 xs hx =>
 p23z13 P K l0 best4 i5 L1 L2 xs hx)
 (p23z21 P K l0 best4 h)) := (CutP_def _ _ _ _).trans (by kernel_rfl)
theorem q23z51 (l0 best4 ahead8 text9 i10 x58 x89 x90 : Value) (L1 L2 L3 : LK) (h : Heap) : p23z51 P K l0 best4 ahead8 text9 i10 x58 x89 x90 L1 L2 L3 h =
 (OP (iPick x89 (.bool true) x90) fun x91 =>
 p23z53 P K l0 best4 x91 ahead8 text9 i10 x58 L1 L2 L3 h) := (CutP_def _ _ _ _).trans (by kernel_rfl)
theorem q23z49 (l0 best4 changed7 ahead8 text9 i10 x58 x89 : Value) (L1 L2 L3 : LK) (h : Heap) : p23z49 P K l0 best4 changed7 ahead8 text9 i10 x58 x89 L1 L2 L3 h =
 (GdP x89 false
 (p23z51 P K l0 best4 ahead8 text9 i10 x58 x89 changed7 L1 L2 L3 h)
 (p23z51 P K l0 best4 ahead8 text9 i10 x58 x89 undef L1 L2 L3 h)) := (CutP_def _ _ _ _).trans (by kernel_rfl)
theorem q23z53 (l0 best4 changed7 ahead8 text9 i10 x58 : Value) (L1 L2 L3 : LK) (h : Heap) : p23z53 P K l0 best4 changed7 ahead8 text9 i10 x58 L1 L2 L3 h =
 (OP (iBin .add i10 (.int .i64 (1))) fun x71 =>
 ([l0, best4, ahead8, text9, x58] : List Value) = [l0, best4, ahead8, text9, x58] ∧ L3 [changed7, x71] h) := (CutP_def _ _ _ _).trans (by kernel_rfl)
theorem q23z41 (l0 best4 ahead8 text9 x58 : Value) (L1 L2 L3 : LK) (changed7 i10 : Value) (h : Heap) : p23z41 P K l0 best4 ahead8 text9 x58 L1 L2 L3 [changed7, i10] h =
 (OP (iLenSl l0) fun x68 =>
 OP (iBin .lss i10 x68) fun x69 =>
 IfP x69
 (OP (iAdrSl 1 l0 i10) fun x75 =>
 OP (iLoad false 1 h x75) fun x76 =>
 CallP P 41 [x76, ahead8] h fun x78 h_1 =>
 IfP x78
 (OP (iAdrSl 1 l0 i10) fun x83 =>
 OP (iLoad false 1 h_1 x83) fun x84 =>
 OP (iLenS x84) fun x85 =>
 OP (iSlS ahead8 (some x85) none) fun x86 =>
 CallP P 42 [best4, x86, text9] h_1 fun x88 h_2 =>
 p23z49 P K l0 best4 changed7 ahead8 text9 i10 x58 x88 L1 L2 L3 h_2)
 (OP (iAdrSl 1 l0 i10) fun x96 =>
 OP (iLoad false 1 h_1 x96) fun x97 =>
 CallP P 41 [ahead8, x97] h_1 fun x98 h_2 =>
 IfP x98
 (OP (iAdrSl 1 l0 i10) fun x102 =>
 OP (iLoad false 1 h_2 x102) fun x103 =>
 (True) ∧
 OP (iLenS ahead8) fun x105 =>
 OP (iSlS x103 (some x105) none) fun x106 =>
 OP (iAdrSl 1 l0 i10) fun x110 =>
 OP (iLoad false 1 h_2 x110) fun x111 =>
 (True) ∧
 OP (iLenS ahead8) fun x113 =>
 OP (iSlS x111 (some x113) none) fun x114 =>
 OP (iBin .add text9 x114) fun x115 =>
 CallP P 42 [best4, x106, x115] h_2 fun x116 h_3 =>
 (True) ∧
 GdP x116 false
 (OP (iPick x116 (.bool true) changed7) fun x119 =>
 p23z53 P K l0 best4 x119 ahead8 text9 i10 x58 L1 L2 L3 h_3)
 (OP (iPick x116 (.bool true) undef) fun x119 =>
 p23z53 P K l0 best4 x119 ahead8 text9 i10 x58 L1 L2 L3 h_3))
 (p23z53 P K l0 best4 changed7 ahead8 text9 i10 x58 L1 L2 L3 h_2)))
 (([l0, best4, x58] : List Value) = [l0, best4, x58] ∧ L2 [changed7] h)) := (CutP_def _ _ _ _).trans (by kernel_rfl)
theorem q23z32 (l0 best4 x58 : Value) (L1 L2 : LK) (changed7 : Value) (h : Heap) : p23z32 P K l0 best4 x58 L1 L2 [changed7] h =
 (NxP (nexts h x58) fun x59 h_1 =>
 OP (iExt 0 x59) fun x60 =>
 IfP x60
 (OP (iEntry h_1 x58) fun x61 =>
 OP (iExt 0 x61) fun x62 =>
 OP (iExt 1 x61) fun x63 =>
 OP (iBin .eql x62 (.string ⟨#[]⟩)) fun x65 =>
 IfP x65
 (([l0, best4, x58] : List Value) = [l0, best4, x58] ∧ L2 [changed7] h_1)
 (LoopP [changed7, (.int .i64 (0))] h_1 fun L3 xs hx =>
 p23z41 P K l0 best4 x62 x63 x58 L1 L2 L3 xs hx))
 (([l0, best4] : List Value) = [l0, best4] ∧ L1 [changed7] h_1)) := (CutP_def _ _ _ _).trans (by kernel_rfl)
theorem q23z25 (l0 best4 : Value) (L1 : LK) (changed7 : Value) (h : Heap) : p23z25 P K l0 best4 L1 [changed7] h =
 (IfP changed7
 (OH (iRangeG h best4) fun x58 h_1 =>
 LoopP [(.bool false)] h_1 fun L2 xs hx =>
 p23z32 P K l0 best4 x58 L1 L2 xs hx)
 (p23z54 P K best4 h)) := (CutP_def _ _ _ _).trans (by kernel_rfl)
theorem q23z54 (best4 : Value) (h : Heap) : p23z54 P K best4 h =
 (OP (iLookupG .str true (.string ⟨#[]⟩) h best4 (.string ⟨#[]⟩)) fun x122 =>
 OP (iExt 0 x122) fun x123 =>
 OP (iExt 1 x122) fun x124 =>
 K (.tuple #[x123, x124]) h) := (CutP_def _ _ _ _).trans (by kernel_rfl)
theorem q23z21 (l0 best4 : Value) (h : Heap) : p23z21 P K l0 best4 h =
 (LoopP [(.bool true)] h fun L1 xs hx =>
 p23z25 P K l0 best4 L1 xs hx) := (CutP_def _ _ _ _).trans (by kernel_rfl)
def T23 (l0 : Value) (h : Heap) : Prop :=
 OH (iMkMapG .str h) fun x13 h_1 =>
 LoopP [(.int .i64 (0))] h_1 fun L1 xs hx =>
 p23z6 P K l0 x13 L1 xs hx
theorem e23 (l0 : Value) (h : Heap) : iwpNP P c23 (bodyP [.tmp 2, .tmp 3] K) (frame0 [l0]) h = T23 P K l0 h := by kernel_rfl
theorem f23 {K : VK} {l0 : Value} {h : Heap} (H : T23 Tryd.prog K l0 h) : CallNP Tryd.prog 23 [l0] h K :=
 callNP_intro k23 (Nat.le_of_ble_eq_true rfl) ((e23 Tryd.prog K l0 h).mpr H)
end Go.Proofs.YthplaillblmgfaaDoor
