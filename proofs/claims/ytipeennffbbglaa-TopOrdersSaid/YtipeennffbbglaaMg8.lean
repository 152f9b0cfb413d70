/-
  Numbers as rows of digits, the least first.
-/
import Derived.Test.YtipeennffbbglaaSim21
import Derived.Test.YtipeennffbbglaaSp1
namespace Go.Sim

def val (B : Nat) : List Nat → Nat
  | [] => 0
  | d :: ds => d + B * val B ds

def Lim (B : Nat) (xs : List Nat) : Prop := ∀ x ∈ xs, x < B
/-- Digits, and no 0 at the end. -/
def Canon (B : Nat) (xs : List Nat) : Prop := Lim B xs ∧ xs.getLast? ≠ some 0

theorem val_append (B : Nat) : ∀ xs ys : List Nat, val B (xs ++ ys) = val B xs + B ^ xs.length * val B ys
  | [], ys => by simp [val]
  | x :: xs, ys => by
    simp only [List.cons_append, val, val_append B xs ys, List.length_cons, Nat.pow_succ]
    grind

theorem val_zeros (B : Nat) : ∀ n, val B (List.replicate n 0) = 0
  | 0 => rfl
  | n + 1 => by rw [List.replicate_succ]; simp [val, val_zeros B n]

theorem val_set (B : Nat) : ∀ (xs : List Nat) (i d : Nat) (hi : i < xs.length), val B (xs.set i d) + B ^ i * xs[i] = val B xs + B ^ i * d
  | [], i, d, hi => by simp at hi
  | x :: xs, 0, d, hi => by simp [val]; omega
  | x :: xs, i + 1, d, hi => by
    have ih := val_set B xs i d (by simpa using hi)
    simp only [List.set_cons_succ, val, List.getElem_cons_succ, Nat.pow_succ]
    grind

theorem val_take_succ (B : Nat) (xs : List Nat) {i : Nat} (hi : i < xs.length) : val B (xs.take (i + 1)) = val B (xs.take i) + B ^ i * xs[i] := by
  rw [List.take_succ_eq_append_getElem hi, val_append]
  simp [val, Nat.min_eq_left (Nat.le_of_lt hi)]

theorem Lim.mono {B : Nat} {xs ys : List Nat} (h : Lim B xs) (hs : ∀ y ∈ ys, y ∈ xs) : Lim B ys := fun y hy => h y (hs y hy)
theorem Lim.append {B : Nat} {xs ys : List Nat} (h : Lim B xs) (k : Lim B ys) : Lim B (xs ++ ys) := fun y hy => (List.mem_append.1 hy).elim (h y) (k y)
theorem Lim.set {B : Nat} {xs : List Nat} (h : Lim B xs) {d : Nat} (hd : d < B) (i : Nat) : Lim B (xs.set i d) := fun y hy => by
  rcases List.mem_or_eq_of_mem_set hy with h1 | h1
  · exact h y h1
  · rw [h1]; exact hd
theorem Lim.zeros {B : Nat} (hB : 0 < B) (n : Nat) : Lim B (List.replicate n 0) := fun y hy => by
  rw [(List.mem_replicate.1 hy).2]; exact hB

theorem val_lt {B : Nat} : ∀ {xs : List Nat}, Lim B xs → val B xs < B ^ xs.length
  | [], _ => by simp [val]
  | x :: xs, h => by
    have h1 := h x (by simp)
    have ih := val_lt (xs := xs) fun y hy => h y (by simp [hy])
    simp only [val, List.length_cons, Nat.pow_succ]
    have : B * (val B xs + 1) ≤ B * B ^ xs.length := Nat.mul_le_mul_left _ ih
    rw [Nat.mul_comm (B ^ xs.length)]
    grind

theorem Canon.cons {B : Nat} {x : Nat} {xs : List Nat} (h : Canon B (x :: xs)) : x < B ∧ Canon B xs ∧ (xs = [] → x ≠ 0) := by
  refine ⟨h.1 x (by simp), ⟨fun y hy => h.1 y (by simp [hy]), ?_⟩, ?_⟩
  · intro hl
    apply h.2
    cases xs with
    | nil => simp at hl
    | cons y ys => simpa [List.getLast?_cons_cons] using hl
  · rintro rfl rfl
    exact h.2 rfl

theorem Canon.zero {B : Nat} (hB : 0 < B) : ∀ {xs : List Nat}, Canon B xs → val B xs = 0 → xs = []
  | [], _, _ => rfl
  | x :: xs, h, h0 => by
    obtain ⟨_, h2, h3⟩ := h.cons
    simp only [val] at h0
    have hx : x = 0 := by omega
    have hv : B * val B xs = 0 := by omega
    have : val B xs = 0 := by
      rcases Nat.mul_eq_zero.1 hv with h | h
      · omega
      · exact h
    exact absurd hx (h3 (Canon.zero hB h2 this))

theorem Canon.unique {B : Nat} (hB : 0 < B) : ∀ {xs ys : List Nat}, Canon B xs → Canon B ys → val B xs = val B ys → xs = ys
  | [], ys, _, hy, h => (Canon.zero hB hy (by simpa [val] using h.symm)).symm
  | x :: xs, [], hx, _, h => Canon.zero hB hx (by simpa [val] using h)
  | x :: xs, y :: ys, hx, hy, h => by
    obtain ⟨a1, a2, _⟩ := hx.cons
    obtain ⟨b1, b2, _⟩ := hy.cons
    simp only [val] at h
    have e1 : x = y := by
      have := congrArg (· % B) h
      simpa [Nat.add_mul_mod_self_left, Nat.mod_eq_of_lt a1, Nat.mod_eq_of_lt b1] using this
    subst e1
    have e2 : val B xs = val B ys := Nat.eq_of_mul_eq_mul_left hB (by omega)
    rw [Canon.unique hB a2 b2 e2]

theorem Canon.low {B : Nat} (hB : 0 < B) : ∀ {xs : List Nat}, Canon B xs → xs ≠ [] → B ^ (xs.length - 1) ≤ val B xs
  | [x], h, _ => by
    have := h.cons.2.2 rfl
    simp [val]
    omega
  | x :: y :: xs, h, _ => by
    have ih := Canon.low hB h.cons.2.1 (by simp)
    simp only [List.length_cons, Nat.add_sub_cancel] at ih ⊢
    rw [show val B (x :: y :: xs) = x + B * val B (y :: xs) from rfl, Nat.pow_succ]
    have : B * B ^ xs.length ≤ B * val B (y :: xs) := Nat.mul_le_mul_left _ ih
    rw [Nat.mul_comm (B ^ xs.length)]
    omega

theorem Canon.len {B k : Nat} (hB : 1 < B) {xs : List Nat} (h : Canon B xs) (hv : val B xs < B ^ k) : xs.length ≤ k := by
  by_cases hx : xs = []
  · subst hx; simp
  · have h1 := Canon.low (by omega) h hx
    have h2 : B ^ (xs.length - 1) < B ^ k := Nat.lt_of_le_of_lt h1 hv
    have := (Nat.pow_lt_pow_iff_right hB).1 h2
    have : 0 < xs.length := List.length_pos_iff.2 hx
    omega

theorem Canon.nil (B : Nat) : Canon B [] := ⟨fun x hx => by simp at hx, by simp⟩

/-- More digits, the greater number. -/
theorem Canon.lt_of_len {B : Nat} (hB : 1 < B) {xs ys : List Nat} (hx : Canon B xs) (hy : Canon B ys) (h : xs.length < ys.length) : val B xs < val B ys := by
  have h1 := val_lt hx.1
  have h2 := Canon.low (by omega) hy (by rintro rfl; simp at h)
  have h3 : B ^ xs.length ≤ B ^ (ys.length - 1) := Nat.pow_le_pow_right (by omega) (by omega)
  omega

/-- Without zeros at the end. -/
theorem can_of_last {B : Nat} {xs : List Nat} (h : Lim B xs) (hl : ∀ h0 : 0 < xs.length, xs[xs.length - 1] ≠ 0) : Canon B xs := by
  refine ⟨h, fun h0 => ?_⟩
  rw [List.getLast?_eq_getElem?] at h0
  obtain ⟨h1, h2⟩ := List.getElem?_eq_some_iff.1 h0
  exact hl (by omega) h2

end Go.Sim

/-
  Sets of letters that commute, and how many seams of a length there are.
-/
namespace Go.Sim

def bitB (s a : Nat) : Bool := s / 2 ^ a % 2 == 1
def okA (cm : Nat → Nat → Bool) (s a : Nat) : Nat → Bool
  | 0 => true
  | b + 1 => okA cm s a b && (!bitB s b || cm a b)
def okS (cm : Nat → Nat → Bool) (s : Nat) : Nat → Bool
  | 0 => true
  | a + 1 => okS cm s a && (!bitB s a || okA cm s a a)
def szS (s : Nat) : Nat → Nat
  | 0 => 0
  | a + 1 => szS s a + (if bitB s a then 1 else 0)

theorem szS_le (s : Nat) : ∀ n, szS s n ≤ n
  | 0 => Nat.le_refl _
  | n + 1 => by have := szS_le s n; simp only [szS]; split <;> omega

/-- How many of the first sets are of i letters, and commute. -/
def cqU (cm : Nat → Nat → Bool) (n : Nat) : Nat → Nat → Nat
  | 0, _ => 0
  | m + 1, i => cqU cm n m i + (if okS cm m n && (szS m n == i) then 1 else 0)

theorem cqU_le (cm : Nat → Nat → Bool) (n : Nat) : ∀ m i, cqU cm n m i ≤ m
  | 0, _ => Nat.le_refl _
  | m + 1, i => by have := cqU_le cm n m i; simp only [cqU]; split <;> omega

/-- Without zeros at the end. -/
def dropT : List Nat → List Nat
  | [] => []
  | x :: xs => match dropT xs with
    | [] => if x = 0 then [] else [x]
    | y :: ys => x :: y :: ys

theorem dropT_zero : ∀ xs : List Nat, dropT (xs ++ [0]) = dropT xs
  | [] => rfl
  | x :: xs => by simp only [List.cons_append, dropT, dropT_zero xs]

theorem dropT_id : ∀ {xs : List Nat}, xs.getLast? ≠ some 0 → dropT xs = xs
  | [], _ => rfl
  | [x], h => by
    have : x ≠ 0 := by rintro rfl; exact h rfl
    simp [dropT, this]
  | x :: y :: xs, h => by
    have ih := dropT_id (xs := y :: xs) (by simpa [List.getLast?_cons_cons] using h)
    rw [dropT, ih]

theorem dropT_getD : ∀ (xs : List Nat) (i : Nat), (dropT xs).getD i 0 = xs.getD i 0
  | [], _ => rfl
  | x :: xs, i => by
    have ih := dropT_getD xs
    rw [dropT]
    split
    · rename_i h
      rw [h] at ih
      cases i with
      | zero => by_cases hx : x = 0 <;> simp [hx]
      | succ i =>
        have := ih i
        simp only [List.getD_nil, List.getD_eq_getElem?_getD] at this
        by_cases hx : x = 0 <;> simp [hx, ← this]
    · rename_i y ys h
      rw [h] at ih
      cases i with
      | zero => rfl
      | succ i => simpa using ih i

theorem dropT_len : ∀ xs : List Nat, (dropT xs).length ≤ xs.length
  | [] => Nat.le_refl _
  | x :: xs => by
    have ih := dropT_len xs
    rw [dropT]
    split
    · split <;> simp
    · rename_i y ys h
      rw [h] at ih
      simpa using ih

/-- How many sets of letters commute, by their size. -/
def cqL (cm : Nat → Nat → Bool) (n : Nat) : List Nat := dropT ((List.range (n + 1)).map (cqU cm n (2 ^ n)))

theorem cqL_getD (cm : Nat → Nat → Bool) {n i : Nat} (hi : i ≤ n) : (cqL cm n).getD i 0 = cqU cm n (2 ^ n) i := by
  rw [cqL, dropT_getD]
  simp [List.getD, hi, Nat.lt_succ_iff]

/-! ### The counts -/

/-- One summand of a count: the least sizes are met first. -/
def cterm (ys : List Nat) (l : List Int) (m i : Nat) : Int :=
  if i = 0 ∨ m < i then 0 else if i % 2 = 1 then l.getD (m - i) 0 * (ys.getD i 0 : Int) else -(l.getD (m - i) 0 * (ys.getD i 0 : Int))
def psum (ys : List Nat) (l : List Int) (m : Nat) : Nat → Int
  | 0 => 0
  | i + 1 => psum ys l m i + cterm ys l m i
def cntL (ys : List Nat) : Nat → List Int
  | 0 => [1]
  | m + 1 => cntL ys m ++ [psum ys (cntL ys m) (m + 1) ys.length]
def cntF (ys : List Nat) (m : Nat) : Int := (cntL ys m).getD m 0

theorem cntL_len (ys : List Nat) : ∀ m, (cntL ys m).length = m + 1
  | 0 => rfl
  | m + 1 => by simp [cntL, cntL_len ys m]

theorem cntL_getD (ys : List Nat) : ∀ (m i : Nat), i ≤ m → (cntL ys m).getD i 0 = cntF ys i
  | 0, i, h => by
    have : i = 0 := by omega
    subst this; rfl
  | m + 1, i, h => by
    by_cases hi : i = m + 1
    · subst hi; rfl
    · have h1 := cntL_getD ys m i (by omega)
      rw [← h1]
      have hl := cntL_len ys m
      simp only [cntL, List.getD_eq_getElem?_getD]
      rw [List.getElem?_append_left (by omega)]

theorem cterm_cnt (ys : List Nat) (m i : Nat) : cterm ys (cntL ys m) (m + 1) i = if i = 0 ∨ m + 1 < i then 0 else if i % 2 = 1 then cntF ys (m + 1 - i) * (ys.getD i 0 : Int) else -(cntF ys (m + 1 - i) * (ys.getD i 0 : Int)) := by
  unfold cterm
  split
  · rfl
  · rw [cntL_getD ys m (m + 1 - i) (by omega)]

theorem cntF_succ (ys : List Nat) (m : Nat) : cntF ys (m + 1) = psum ys (cntL ys m) (m + 1) ys.length := by
  have hl := cntL_len ys m
  simp only [cntF, cntL, List.getD_eq_getElem?_getD]
  rw [List.getElem?_append_right (by omega)]
  simp [hl]

/-- What is added up does not grow too far. -/
theorem psum_bound (ys : List Nat) (l : List Int) (m : Nat) (B : Nat) (hy : ∀ i, ys.getD i 0 ≤ 64) (hl : ∀ i, i < m → (l.getD i 0).natAbs ≤ B) : ∀ j, (psum ys l m j).natAbs ≤ j * (64 * B)
  | 0 => by simp [psum]
  | j + 1 => by
    have ih := psum_bound ys l m B hy hl j
    have ht : (cterm ys l m j).natAbs ≤ 64 * B := by
      unfold cterm
      split
      · simp
      · have h1 := hl (m - j) (by omega)
        have h2 := hy j
        have h3 : (l.getD (m - j) 0 * (ys.getD j 0 : Int)).natAbs ≤ 64 * B := by
          rw [Int.natAbs_mul, Int.natAbs_natCast, Nat.mul_comm]
          exact Nat.mul_le_mul h2 h1
        split
        · exact h3
        · rw [Int.natAbs_neg]; exact h3
    simp only [psum]
    have := Int.natAbs_add_le (psum ys l m j) (cterm ys l m j)
    rw [Nat.succ_mul]
    omega

theorem cntF_bound (ys : List Nat) (hy : ∀ i, ys.getD i 0 ≤ 64) (hn : ys.length ≤ 7) : ∀ m, (cntF ys m).natAbs ≤ 512 ^ m := by
  intro m
  induction m using Nat.strongRecOn with
  | ind m ih =>
    cases m with
    | zero => exact Nat.le_refl 1
    | succ m =>
      rw [cntF_succ]
      have hb := psum_bound ys (cntL ys m) (m + 1) (512 ^ m) hy (fun i hi => by
        rw [cntL_getD ys m i (by omega)]
        exact Nat.le_trans (ih i hi) (Nat.pow_le_pow_right (by decide) (by omega))) ys.length
      have h2 : ys.length * (64 * 512 ^ m) ≤ 7 * (64 * 512 ^ m) := Nat.mul_le_mul_right _ hn
      rw [Nat.pow_succ]
      omega

end Go.Sim

/-
  The identity of Cartier and Foata, for the counts that the program makes.
-/
namespace Go.Sim

theorem szS_zero_okA {cm : Nat → Nat → Bool} {s a : Nat} : ∀ {b : Nat}, szS s b = 0 → okA cm s a b = true
  | 0, _ => rfl
  | b + 1, h => by
    simp only [szS] at h
    have hb : bitB s b = false := by
      cases hb : bitB s b with
      | false => rfl
      | true => rw [hb] at h; simp at h
    rw [hb] at h
    have ih := szS_zero_okA (cm := cm) (s := s) (a := a) (b := b) (by simpa using h)
    simp only [okA, hb, ih, Bool.not_false, Bool.true_or, Bool.and_true]

/-- A set of one letter commutes. -/
theorem szS_one_okS {cm : Nat → Nat → Bool} {s : Nat} : ∀ {n : Nat}, szS s n ≤ 1 → okS cm s n = true
  | 0, _ => rfl
  | n + 1, h => by
    simp only [szS] at h
    have ih := szS_one_okS (cm := cm) (s := s) (n := n) (by omega)
    cases hb : bitB s n with
    | false => simp [okS, ih, hb]
    | true =>
      rw [hb] at h
      simp only [if_true] at h
      simp [okS, ih, hb, szS_zero_okA (cm := cm) (a := n) (show szS s n = 0 by omega)]

theorem cqU_one (cm : Nat → Nat → Bool) (n : Nat) {i : Nat} (hi : i ≤ 1) : ∀ m, cqU cm n m i = cqU (fun _ _ => true) n m i
  | 0 => rfl
  | m + 1 => by
    simp only [cqU, cqU_one cm n hi m]
    by_cases hz : szS m n = i
    · rw [szS_one_okS (cm := cm) (by omega), szS_one_okS (cm := fun _ _ => true) (by omega)]
    · have : (szS m n == i) = false := by simpa using hz
      simp [this]

theorem cqL_first (cm : Nat → Nat → Bool) {n : Nat} (h1 : 1 ≤ n) (h6 : n ≤ 6) : (cqL cm n).getD 0 0 = 1 ∧ (cqL cm n).getD 1 0 = n := by
  rw [cqL_getD cm (by omega), cqL_getD cm h1, cqU_one cm n (by omega), cqU_one cm n (by omega)]
  rcases (by omega : n = 1 ∨ n = 2 ∨ n = 3 ∨ n = 4 ∨ n = 5 ∨ n = 6) with rfl | rfl | rfl | rfl | rfl | rfl <;> decide +kernel

theorem getD_len {ys : List Nat} {i : Nat} (h : ys.getD i 0 ≠ 0) : i < ys.length := by
  apply Classical.byContradiction
  intro hc
  apply h
  simp only [List.getD_eq_getElem?_getD]
  rw [List.getElem?_eq_none (by omega)]
  rfl

/-- The law's sum. -/
def lterm (ys : List Nat) (m i : Nat) : Int := if m < i then 0 else ((ys.getD i 0 : Int) * (1 - 2 * ((i % 2 : Nat) : Int))) * cntF ys (m - i)
def lsum (ys : List Nat) (m : Nat) : Nat → Int
  | 0 => 0
  | i + 1 => lsum ys m i + lterm ys m i

theorem lsum_psum (ys : List Nat) (h0 : ys.getD 0 0 = 1) (m : Nat) : ∀ i, lsum ys (m + 1) (i + 1) + psum ys (cntL ys m) (m + 1) (i + 1) = cntF ys (m + 1)
  | 0 => by
    have h1 : lterm ys (m + 1) 0 = cntF ys (m + 1) := by
      unfold lterm
      rw [if_neg (by omega), h0]
      simp
    have h2 : cterm ys (cntL ys m) (m + 1) 0 = 0 := by unfold cterm; rw [if_pos (.inl rfl)]
    simp only [lsum, psum, h1, h2]
    omega
  | i + 1 => by
    have ih := lsum_psum ys h0 m i
    have h1 : lterm ys (m + 1) (i + 1) + cterm ys (cntL ys m) (m + 1) (i + 1) = 0 := by
      rw [cterm_cnt]
      unfold lterm
      by_cases hm : m + 1 < i + 1
      · rw [if_pos hm, if_pos (.inr hm)]; rfl
      · rw [if_neg hm, if_neg (by omega)]
        rcases Nat.mod_two_eq_zero_or_one (i + 1) with hp | hp
        · rw [if_neg (by omega), hp]
          simp [Int.mul_comm]
          omega
        · rw [if_pos hp, hp]
          have : (1 : Int) - 2 * ((1 : Nat) : Int) = -1 := rfl
          rw [this, Int.mul_neg, Int.mul_one, Int.neg_mul, Int.mul_comm]
          omega
    rw [show lsum ys (m + 1) (i + 1 + 1) = lsum ys (m + 1) (i + 1) + lterm ys (m + 1) (i + 1) from rfl, show psum ys (cntL ys m) (m + 1) (i + 1 + 1) = psum ys (cntL ys m) (m + 1) (i + 1) + cterm ys (cntL ys m) (m + 1) (i + 1) from rfl]
    omega

theorem psum_end (ys : List Nat) (l : List Int) (m : Nat) : ∀ {i j : Nat}, m < i → i ≤ j → psum ys l m j = psum ys l m i
  | i, 0, h, hij => by omega
  | i, j + 1, h, hij => by
    by_cases he : i = j + 1
    · subst he; rfl
    · have ih := psum_end ys l m (i := i) (j := j) h (by omega)
      simp only [psum, ih]
      unfold cterm
      rw [if_pos (.inr (by omega))]
      omega

/-- Cartier and Foata: the sum is 0. -/
theorem lsum_zero (ys : List Nat) (h0 : ys.getD 0 0 = 1) {m i : Nat} (hi : 1 ≤ i) (hil : i ≤ ys.length) (he : i = ys.length ∨ m + 1 < i) : lsum ys (m + 1) i = 0 := by
  obtain ⟨j, rfl⟩ : ∃ j, i = j + 1 := ⟨i - 1, by omega⟩
  have h := lsum_psum ys h0 m j
  have h2 : psum ys (cntL ys m) (m + 1) (j + 1) = cntF ys (m + 1) := by
    rw [cntF_succ]
    rcases he with he | he
    · rw [he]
    · exact (psum_end ys _ _ he hil).symm
  omega

theorem lsum_bound (ys : List Nat) (hy : ∀ i, ys.getD i 0 ≤ 64) (hn : ys.length ≤ 7) (m : Nat) : ∀ i, (lsum ys m i).natAbs ≤ i * 512 ^ (m + 1)
  | 0 => by simp [lsum]
  | i + 1 => by
    have ih := lsum_bound ys hy hn m i
    have ht : (lterm ys m i).natAbs ≤ 512 ^ (m + 1) := by
      unfold lterm
      split
      · simp
      · have h1 := cntF_bound ys hy hn (m - i)
        have h2 := hy i
        have h3 : (512 : Nat) ^ (m - i) ≤ 512 ^ m := Nat.pow_le_pow_right (by decide) (by omega)
        have h4 : ((ys.getD i 0 : Int) * (1 - 2 * ((i % 2 : Nat) : Int))).natAbs ≤ 64 := by
          rw [Int.natAbs_mul, Int.natAbs_natCast]
          have : (1 - 2 * ((i % 2 : Nat) : Int)).natAbs = 1 := by
            rcases Nat.mod_two_eq_zero_or_one i with hp | hp <;> rw [hp] <;> rfl
          rw [this]; omega
        rw [Int.natAbs_mul, Nat.pow_succ, Nat.mul_comm (512 ^ m)]
        exact Nat.le_trans (Nat.mul_le_mul h4 (Nat.le_trans h1 h3)) (Nat.mul_le_mul_right _ (by decide))
    simp only [lsum]
    have := Int.natAbs_add_le (lsum ys m i) (lterm ys m i)
    rw [Nat.succ_mul]
    omega

end Go.Sim

/-
  Without pairs, and with all pairs.
-/
namespace Go.Sim

/-! ### Without pairs -/

theorem firstAt_none {fr : UInt8 → UInt8 → Bool} (hf : ∀ x y, fr x y = false) (x c : UInt8) (s : List UInt8) : firstAt fr x (c :: s) 0 = if c = x then some 0 else none := by
  simp [firstAt, hf]

theorem pickFrom_head {fr : UInt8 → UInt8 → Bool} (hf : ∀ x y, fr x y = false) {a : Nat} (ha : a < 100) (s : List UInt8) : ∀ (t b : Nat), b ≤ a → a < b + t → pickFrom fr (lt a :: s) t b = some (a, 0)
  | 0, b, h1, h2 => by omega
  | t + 1, b, h1, h2 => by
    simp only [pickFrom, firstAt_none hf]
    by_cases hab : a = b
    · subst hab; simp
    · have : lt a ≠ lt b := fun h => hab (lt_inj ha (by omega) h)
      rw [if_neg this]
      exact pickFrom_head hf ha s t (b + 1) (by omega) (by omega)

theorem leastF_none {fr : UInt8 → UInt8 → Bool} (hf : ∀ x y, fr x y = false) {n : Nat} (hn : n ≤ 6) : ∀ (s : List UInt8), letters n s → leastF fr n s.length s = s
  | [], _ => rfl
  | c :: s, h => by
    obtain ⟨a, ha, rfl⟩ := h c (by simp)
    simp only [List.length_cons, leastF]
    rw [pickFrom_head hf (by omega) s n 0 (Nat.zero_le _) (by omega)]
    have : without (lt a :: s) 0 = s := by simp [without]
    simp only [this]
    rw [leastF_none hf hn s fun c hc => h c (by simp [hc])]

/-! ### All pairs -/

def allFree (fr : UInt8 → UInt8 → Bool) (n : Nat) : Prop := ∀ a b, a < n → b < n → a ≠ b → fr (lt a) (lt b) = true

theorem firstAt_all {fr : UInt8 → UInt8 → Bool} {n : Nat} (hn : n ≤ 6) (hf : allFree fr n) {a : Nat} (ha : a < n) : ∀ (s : List UInt8) (i : Nat), letters n s → firstAt fr (lt a) s i = none → lt a ∉ s
  | [], _, _, _ => by simp
  | c :: s, i, h, h0 => by
    obtain ⟨b, hb, rfl⟩ := h c (by simp)
    simp only [firstAt] at h0
    by_cases hab : lt b = lt a
    · rw [if_pos hab] at h0; cases h0
    · rw [if_neg hab, hf b a hb ha (fun h => hab (by rw [h])), if_pos rfl] at h0
      have := firstAt_all hn hf ha s (i + 1) (fun c hc => h c (by simp [hc])) h0
      simp [this]
      exact fun h => hab h.symm

theorem pickFrom_all {fr : UInt8 → UInt8 → Bool} {n : Nat} (hn : n ≤ 6) (hf : allFree fr n) {s : List UInt8} (hs : letters n s) {a i : Nat} : ∀ (t b : Nat), b + t ≤ n → pickFrom fr s t b = some (a, i) → ∀ d, b ≤ d → d < a → lt d ∉ s
  | 0, b, _, h => by simp [pickFrom] at h
  | t + 1, b, hbt, h => by
    intro d hd1 hd2
    simp only [pickFrom] at h
    split at h
    · injection h with h; injection h with h1 h2; omega
    · rename_i h0
      by_cases hdb : d = b
      · subst hdb; exact firstAt_all hn hf (by omega) s 0 hs h0
      · exact pickFrom_all hn hf hs t (b + 1) (by omega) h d (by omega) hd2

theorem mem_without {c : UInt8} {s : List UInt8} {i : Nat} (h : c ∈ without s i) : c ∈ s := by
  unfold without at h
  rcases List.mem_append.1 h with h | h
  · exact List.mem_of_mem_take h
  · exact List.mem_of_mem_drop h

theorem firstAt_mem {fr : UInt8 → UInt8 → Bool} {x : UInt8} : ∀ (s : List UInt8) (i j : Nat), firstAt fr x s i = some j → x ∈ s
  | [], i, j, h => by simp [firstAt] at h
  | c :: s, i, j, h => by
    simp only [firstAt] at h
    split at h
    · rename_i hc; simp [hc]
    · split at h
      · simp [firstAt_mem s _ _ h]
      · cases h

theorem pickFrom_mem {fr : UInt8 → UInt8 → Bool} {s : List UInt8} {a i : Nat} : ∀ (t b : Nat), pickFrom fr s t b = some (a, i) → lt a ∈ s
  | 0, b, h => by simp [pickFrom] at h
  | t + 1, b, h => by
    simp only [pickFrom] at h
    split at h
    · rename_i h0
      injection h with h; injection h with h1 h2
      subst h1
      exact firstAt_mem s _ _ h0
    · exact pickFrom_mem t (b + 1) h

theorem mem_leastF {fr : UInt8 → UInt8 → Bool} {n : Nat} : ∀ (f : Nat) (s : List UInt8) (c : UInt8), c ∈ leastF fr n f s → c ∈ s
  | 0, s, c, h => by simp [leastF] at h
  | f + 1, s, c, h => by
    simp only [leastF] at h
    split at h
    · rename_i a i hp
      rcases List.mem_cons.1 h with rfl | h
      · exact pickFrom_mem n 0 hp
      · exact mem_without (mem_leastF f _ c h)
    · simp at h

theorem leastF_sorted {fr : UInt8 → UInt8 → Bool} {n : Nat} (hn : n ≤ 6) (hf : allFree fr n) : ∀ (f : Nat) (s : List UInt8), letters n s → (leastF fr n f s).Pairwise fun x y => x.toNat ≤ y.toNat
  | 0, s, h => by simp [leastF]
  | f + 1, s, h => by
    simp only [leastF]
    split
    · rename_i a i hp
      refine List.pairwise_cons.2 ⟨fun c hc => ?_, leastF_sorted hn hf f _ fun c hc => h c (mem_without hc)⟩
      have hcs := mem_without (mem_leastF f _ c hc)
      obtain ⟨d, hd, rfl⟩ := h c hcs
      have had := pickFrom_all hn hf h n 0 (by omega) hp d (Nat.zero_le _)
      obtain ⟨a', ha', hla⟩ := h (lt a) (pickFrom_mem n 0 hp)
      have h1 : ¬ d < a := fun hda => had hda hcs
      have haa : a < 100 ∨ 100 ≤ a := Nat.lt_or_ge a 100
      rcases haa with haa | haa
      · rw [lt_toNat haa, lt_toNat (show d < 100 by omega)]; omega
      · omega
    · exact List.Pairwise.nil

/-! ### The counts without pairs -/

theorem cqL_none {n : Nat} (h1 : 1 ≤ n) (h6 : n ≤ 6) : cqL (fun _ _ => false) n = [1, n] := by
  rcases (by omega : n = 1 ∨ n = 2 ∨ n = 3 ∨ n = 4 ∨ n = 5 ∨ n = 6) with rfl | rfl | rfl | rfl | rfl | rfl <;> decide +kernel

theorem cntF_none (k : Nat) : ∀ m, cntF [1, k] m = ((k ^ m : Nat) : Int)
  | 0 => rfl
  | m + 1 => by
    rw [cntF_succ]
    show psum [1, k] (cntL [1, k] m) (m + 1) 0 + cterm [1, k] (cntL [1, k] m) (m + 1) 0 + cterm [1, k] (cntL [1, k] m) (m + 1) 1 = _
    rw [cterm_cnt, cterm_cnt, if_pos (.inl rfl), if_neg (by omega), if_pos rfl]
    simp only [psum, Nat.add_sub_cancel]
    rw [cntF_none k m, Nat.pow_succ]
    simp

end Go.Sim
