/-
  Two sets of jobs that no pair joins: their orders, shuffled.
-/
import Derived.Test.YtelmdbpaoifmoaaSq24
namespace Go.Sim

/-- How many ways there are to shuffle so many with so many. -/
def shufR (f : Nat → Int) : Nat → Int
  | 0 => 1
  | b + 1 => f (b + 1) + shufR f b
def shuf : Nat → Nat → Int
  | 0 => fun _ => 1
  | a + 1 => shufR (shuf a)

theorem shuf_zero (a : Nat) : shuf a 0 = 1 := by cases a <;> rfl
theorem shuf_add (a b : Nat) : shuf (a + 1) (b + 1) = shuf a (b + 1) + shuf (a + 1) b := rfl

theorem cardS_orS (s i : Nat) : ∀ n, cardS (s ||| 2 ^ i) n = cardS s n + (if i < n ∧ s.testBit i = false then 1 else 0)
  | 0 => by simp [cardS]
  | n + 1 => by
    have ih := cardS_orS s i n
    simp only [cardS, ih, testBit_or_pow]
    by_cases hin : i = n
    · subst hin
      cases hb : s.testBit i <;> simp
    · have e : decide (i = n) = false := decide_eq_false hin
      by_cases h1 : i < n
      · cases hb : s.testBit i <;> simp [h1, Nat.lt_succ_of_lt h1, hin] <;> omega
      · have h2 : ¬ i < n + 1 := by omega
        simp [h1, h2, hin]

theorem shuf_step : ∀ a, a < 6 → ∀ i, i < 6 → shuf a (i + 1) * ((i : Int) + 1) = shuf a i * ((a : Int) + ((i : Int) + 1)) ∧ 0 ≤ shuf a i ∧ shuf a i ≤ 1000 := by decide

theorem cardS_zero : ∀ n, cardS 0 n = 0
  | 0 => rfl
  | n + 1 => by simp [cardS, cardS_zero n]

theorem rsum_mul (f : Nat → Int) (c : Int) : ∀ m, (rsum m fun i => f i * c) = rsum m f * c
  | 0 => by simp [rsum]
  | m + 1 => by simp only [rsum, rsum_mul f c m, Int.add_mul]

theorem mod_bit (s n i : Nat) : (s % 2 ^ n).testBit i = (decide (i < n) && s.testBit i) := Nat.testBit_mod_two_pow s n i
theorem shr_bit (s n j : Nat) : (s >>> n).testBit j = s.testBit (n + j) := by rw [Nat.testBit_shiftRight]

theorem sub_iff_bits {a b : Nat} : subB a b = true ↔ ∀ i, a.testBit i = true → b.testBit i = true := subB_iff

section
variable {bs1 bs2 bs : List Nat} {n m : Nat}
variable (h1 : ∀ i, i < n → ∀ j, (bs.getD i 0).testBit j = (bs1.getD i 0).testBit j) (k1 : ∀ i, i < n → ∀ j, (bs1.getD i 0).testBit j = true → j < n)
variable (h2 : ∀ i, i < m → ∀ j, (bs.getD (n + i) 0).testBit j = (decide (n ≤ j) && (bs2.getD i 0).testBit (j - n)))
include h1 k1 in
theorem rdy_left {s i : Nat} (hi : i < n) : rdyS bs s i = rdyS bs1 (s % 2 ^ n) i := by
  unfold rdyS
  rw [mod_bit, decide_eq_true hi, Bool.true_and]
  congr 1
  rw [Bool.eq_iff_iff, subB_iff, subB_iff]
  constructor
  · intro h j hj
    rw [mod_bit, decide_eq_true (k1 i hi j hj), Bool.true_and]
    exact h j (by rw [h1 i hi j]; exact hj)
  · intro h j hj
    rw [h1 i hi j] at hj
    have := h j hj
    rw [mod_bit, Bool.and_eq_true] at this
    exact this.2

include h2 in
theorem rdy_right {s i : Nat} (hi : i < m) : rdyS bs s (n + i) = rdyS bs2 (s >>> n) i := by
  unfold rdyS
  rw [shr_bit]
  congr 1
  rw [Bool.eq_iff_iff, subB_iff, subB_iff]
  constructor
  · intro h j hj
    rw [shr_bit]
    refine h (n + j) ?_
    rw [h2 i hi, decide_eq_true (by omega), Bool.true_and, show n + j - n = j by omega]
    exact hj
  · intro h j hj
    rw [h2 i hi, Bool.and_eq_true, decide_eq_true_eq] at hj
    have := h (j - n) hj.2
    rw [shr_bit, show n + (j - n) = j by omega] at this
    exact this
end

theorem left_mod {s n i : Nat} (hi : i < n) : (s ||| 2 ^ i) % 2 ^ n = s % 2 ^ n ||| 2 ^ i := by
  apply Nat.eq_of_testBit_eq
  intro j
  rw [mod_bit, testBit_or_pow, testBit_or_pow, mod_bit]
  by_cases e : i = j
  · subst e; simp [hi]
  · simp [e]
theorem left_shr {s n i : Nat} (hi : i < n) : (s ||| 2 ^ i) >>> n = s >>> n := by
  apply Nat.eq_of_testBit_eq
  intro j
  rw [shr_bit, testBit_or_pow, shr_bit]
  have : ¬ i = n + j := by omega
  simp [this]
theorem right_mod {s n i : Nat} : (s ||| 2 ^ (n + i)) % 2 ^ n = s % 2 ^ n := by
  apply Nat.eq_of_testBit_eq
  intro j
  rw [mod_bit, testBit_or_pow, mod_bit]
  by_cases hj : j < n
  · have : ¬ n + i = j := by omega
    simp [this]
  · simp [hj]
theorem right_shr {s n i : Nat} : (s ||| 2 ^ (n + i)) >>> n = s >>> n ||| 2 ^ i := by
  apply Nat.eq_of_testBit_eq
  intro j
  rw [shr_bit, testBit_or_pow, testBit_or_pow, shr_bit]
  congr 1
  rw [decide_eq_decide]
  omega

theorem none_ready {bs : List Nat} {n : Nat} (F : Nat → Int) : (rsum n fun i => if rdyS bs (fullS n) i = true then F i else 0) = 0 := by
  have : (rsum n fun i => if rdyS bs (fullS n) i = true then F i else 0) = rsum n fun _ => 0 := rsum_congr fun i hi => by rw [rdy_full hi]; rfl
  rw [this, rsum_zero]

/-- Orders of two sets that nothing joins. -/
theorem blocks {bs1 bs2 bs : List Nat} {n m : Nat} (h1 : ∀ i, i < n → ∀ j, (bs.getD i 0).testBit j = (bs1.getD i 0).testBit j) (k1 : ∀ i, i < n → ∀ j, (bs1.getD i 0).testBit j = true → j < n)
    (h2 : ∀ i, i < m → ∀ j, (bs.getD (n + i) 0).testBit j = (decide (n ≤ j) && (bs2.getD i 0).testBit (j - n))) : ∀ (f s : Nat), s < 2 ^ (n + m) → fullS (n + m) - s ≤ f →
    lefts bs (n + m) s = lefts bs1 n (s % 2 ^ n) * lefts bs2 m (s >>> n) * shuf (n - cardS (s % 2 ^ n) n) (m - cardS (s >>> n) m) := by
  intro f
  induction f with
  | zero =>
    intro s hs hf
    have e : s = fullS (n + m) := by unfold fullS at *; omega
    have e1 : s % 2 ^ n = fullS n := by
      apply eq_full (Nat.mod_lt _ (Nat.pow_pos (by decide)))
      intro j hj
      rw [mod_bit, e, fullS_bit]; simp; omega
    have e2 : s >>> n = fullS m := by
      apply Nat.eq_of_testBit_eq
      intro j
      rw [shr_bit, e, fullS_bit, fullS_bit, decide_eq_decide]; omega
    have c1 := (cardS_lt_iff (fullS_lt n)).2 rfl
    have c2 := (cardS_lt_iff (fullS_lt m)).2 rfl
    rw [e1, e2, e, lefts_full, lefts_full, lefts_full, c1, c2, Nat.sub_self, Nat.sub_self]
    rfl
  | succ f ih =>
    intro s hs hf
    by_cases e : s = fullS (n + m)
    · exact ih s hs (by omega)
    have hsf : s < fullS (n + m) := by unfold fullS at *; omega
    have hs1 : s % 2 ^ n < 2 ^ n := Nat.mod_lt _ (Nat.pow_pos (by decide))
    have hs2 : s >>> n < 2 ^ m := by
      rw [Nat.shiftRight_eq_div_pow, Nat.div_lt_iff_lt_mul (Nat.pow_pos (by decide)), ← Nat.pow_add, Nat.add_comm]
      exact hs
    rw [lefts_rec bs (n + m) hsf, rsum_add]
    have hL : (rsum n fun i => if rdyS bs s i = true then lefts bs (n + m) (s ||| 2 ^ i) else 0) =
        (rsum n fun i => if rdyS bs1 (s % 2 ^ n) i = true then lefts bs1 n (s % 2 ^ n ||| 2 ^ i) else 0) * (lefts bs2 m (s >>> n) * shuf (n - cardS (s % 2 ^ n) n - 1) (m - cardS (s >>> n) m)) := by
      rw [← rsum_mul]
      refine rsum_congr fun i hi => ?_
      rw [rdy_left h1 k1 hi]
      split
      · rename_i hr
        have hb := rdyS_bit hr
        have hbs : s.testBit i = false := by
          rw [mod_bit, decide_eq_true hi, Bool.true_and] at hb; exact hb
        have hgt := lt_or_pow hbs
        rw [ih _ (or_lt hs (by omega)) (by omega), left_mod hi, left_shr hi, cardS_orS, if_pos ⟨hi, hb⟩, Nat.sub_sub]
        rw [Int.mul_assoc]
      · rw [Int.zero_mul]
    have hR : (rsum m fun i => if rdyS bs s (n + i) = true then lefts bs (n + m) (s ||| 2 ^ (n + i)) else 0) =
        (rsum m fun i => if rdyS bs2 (s >>> n) i = true then lefts bs2 m (s >>> n ||| 2 ^ i) else 0) * (lefts bs1 n (s % 2 ^ n) * shuf (n - cardS (s % 2 ^ n) n) (m - cardS (s >>> n) m - 1)) := by
      rw [← rsum_mul]
      refine rsum_congr fun i hi => ?_
      rw [rdy_right h2 hi]
      split
      · rename_i hr
        have hb := rdyS_bit hr
        have hbs : s.testBit (n + i) = false := by rw [shr_bit] at hb; exact hb
        have hgt := lt_or_pow hbs
        rw [ih _ (or_lt hs (by omega)) (by omega), right_mod, right_shr, cardS_orS, if_pos ⟨hi, hb⟩, Nat.sub_sub]
        rw [Int.mul_comm (lefts bs1 n (s % 2 ^ n)) (lefts bs2 m _), Int.mul_assoc]
      · rw [Int.zero_mul]
    rw [hL, hR]
    have c1 := cardS_le (s % 2 ^ n) n
    have c2 := cardS_le (s >>> n) m
    by_cases f1 : s % 2 ^ n = fullS n
    · have d1 := (cardS_lt_iff (fullS_lt n)).2 rfl
      rw [f1, none_ready, lefts_full, d1, Nat.sub_self]
      have f2 : s >>> n ≠ fullS m := by
        intro f2
        apply e
        apply Nat.eq_of_testBit_eq
        intro j
        rw [fullS_bit]
        by_cases hj : j < n
        · have := mod_bit s n j
          rw [f1, fullS_bit, decide_eq_true hj, Bool.true_and] at this
          rw [← this, decide_eq_true (by omega)]
        · have := shr_bit s n (j - n)
          rw [f2, fullS_bit, show n + (j - n) = j by omega] at this
          rw [← this, decide_eq_decide]; omega
      rw [← lefts_rec bs2 m (show s >>> n < fullS m by unfold fullS at *; omega)]
      simp [shuf]
    · have hc1 : cardS (s % 2 ^ n) n < n := by
        rcases Nat.lt_or_eq_of_le c1 with h | h
        · exact h
        · exact absurd ((cardS_lt_iff hs1).1 h) f1
      rw [← lefts_rec bs1 n (show s % 2 ^ n < fullS n by unfold fullS at *; omega)]
      by_cases f2 : s >>> n = fullS m
      · have d2 := (cardS_lt_iff (fullS_lt m)).2 rfl
        rw [f2, none_ready, lefts_full, d2, Nat.sub_self, shuf_zero, shuf_zero]
        simp
      · have hc2 : cardS (s >>> n) m < m := by
          rcases Nat.lt_or_eq_of_le c2 with h | h
          · exact h
          · exact absurd ((cardS_lt_iff hs2).1 h) f2
        rw [← lefts_rec bs2 m (show s >>> n < fullS m by unfold fullS at *; omega)]
        obtain ⟨a, ha⟩ : ∃ a, n - cardS (s % 2 ^ n) n = a + 1 := ⟨n - cardS (s % 2 ^ n) n - 1, by omega⟩
        obtain ⟨b, hb⟩ : ∃ b, m - cardS (s >>> n) m = b + 1 := ⟨m - cardS (s >>> n) m - 1, by omega⟩
        rw [ha, hb, Nat.add_sub_cancel, Nat.add_sub_cancel]
        have : shuf (a + 1) (b + 1) = shuf a (b + 1) + shuf (a + 1) b := shuf_add a b
        rw [this, Int.mul_add]
        have q1 : lefts bs2 m (s >>> n) * (lefts bs1 n (s % 2 ^ n) * shuf (a + 1) b) = lefts bs1 n (s % 2 ^ n) * lefts bs2 m (s >>> n) * shuf (a + 1) b := by
          rw [← Int.mul_assoc, Int.mul_comm (lefts bs2 m (s >>> n))]
        rw [q1, ← Int.mul_assoc]

end Go.Sim
