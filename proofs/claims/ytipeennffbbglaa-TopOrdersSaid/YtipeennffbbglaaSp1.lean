/-
  What stitch and its reference reckon, in plain words: seams of letters, which letters commute, the least equal seam.
-/
import Derived.Test.YtipeennffbbglaaSim21
namespace Go.Sim

/-- The place of a letter that can come to the front. -/
def firstAt (fr : UInt8 → UInt8 → Bool) (x : UInt8) : List UInt8 → Nat → Option Nat
  | [], _ => none
  | c :: cs, i => if c = x then some i else if fr c x then firstAt fr x cs (i + 1) else none

def optI : Option Nat → Int
  | none => -1
  | some i => i

def without (s : List UInt8) (i : Nat) : List UInt8 := s.take i ++ s.drop (i + 1)

/-- The letter of a number. -/
def lt (a : Nat) : UInt8 := UInt8.ofNat (97 + a)

def pickFrom (fr : UInt8 → UInt8 → Bool) (s : List UInt8) : Nat → Nat → Option (Nat × Nat)
  | 0, _ => none
  | t + 1, a => match firstAt fr (lt a) s 0 with
    | some i => some (a, i)
    | none => pickFrom fr s t (a + 1)

def leastF (fr : UInt8 → UInt8 → Bool) (n : Nat) : Nat → List UInt8 → List UInt8
  | 0, _ => []
  | f + 1, s => match pickFrom fr s n 0 with
    | some (a, i) => lt a :: leastF fr n f (without s i)
    | none => []

/-- All letters are of the first n. -/
def letters (n : Nat) (s : List UInt8) : Prop := ∀ c ∈ s, ∃ a, a < n ∧ c = lt a

theorem lt_toNat {a : Nat} (h : a < 100) : (lt a).toNat = 97 + a := by
  simp [lt, UInt8.toNat_ofNat']
  omega

theorem lt_inj {a b : Nat} (ha : a < 100) (hb : b < 100) (h : lt a = lt b) : a = b := by
  have := congrArg UInt8.toNat h
  rw [lt_toNat ha, lt_toNat hb] at this
  omega

theorem firstAt_ge {fr : UInt8 → UInt8 → Bool} {x : UInt8} : ∀ {s : List UInt8} {k i : Nat}, firstAt fr x s k = some i → k ≤ i ∧ i < k + s.length ∧ s[i - k]? = some x
  | [], k, i, h => by simp [firstAt] at h
  | c :: cs, k, i, h => by
    simp only [firstAt] at h
    split at h
    · rename_i hc; simp at h; subst h; subst hc; simp
    · split at h
      · obtain ⟨h1, h2, h3⟩ := firstAt_ge h
        refine ⟨by omega, by simp; omega, ?_⟩
        rw [show i - k = (i - (k + 1)) + 1 by omega]
        simpa using h3
      · cases h

theorem without_length {s : List UInt8} {i : Nat} (h : i < s.length) : (without s i).length + 1 = s.length := by
  simp [without]; omega

theorem letters_without {n : Nat} {s : List UInt8} (h : letters n s) (i : Nat) : letters n (without s i) := by
  intro c hc
  simp only [without, List.mem_append] at hc
  rcases hc with hc | hc
  · exact h c (List.mem_of_mem_take hc)
  · exact h c (List.mem_of_mem_drop hc)

/-- Some letter of a seam can come to the front. -/
theorem pickFrom_some {fr : UInt8 → UInt8 → Bool} {s : List UInt8} : ∀ {t a b : Nat}, a ≤ b → b < a + t → (∃ i, firstAt fr (lt b) s 0 = some i) → ∃ c i, pickFrom fr s t a = some (c, i) ∧ a ≤ c ∧ c ≤ b ∧ firstAt fr (lt c) s 0 = some i
  | 0, a, b, h1, h2, _ => by omega
  | t + 1, a, b, h1, h2, hb => by
    simp only [pickFrom]
    cases hf : firstAt fr (lt a) s 0 with
    | some i => exact ⟨a, i, rfl, Nat.le_refl _, h1, hf⟩
    | none =>
      have hne : a ≠ b := by
        rintro rfl
        rw [hf] at hb
        obtain ⟨i, hi⟩ := hb
        cases hi
      obtain ⟨c, i, e1, e2, e3, e4⟩ := pickFrom_some (t := t) (a := a + 1) (b := b) (by omega) (by omega) hb
      exact ⟨c, i, e1, by omega, e3, e4⟩

theorem pick_some {fr : UInt8 → UInt8 → Bool} {s : List UInt8} {n : Nat} (hs : s ≠ []) (hl : letters n s) : ∃ a i, pickFrom fr s n 0 = some (a, i) ∧ a < n ∧ i < s.length ∧ firstAt fr (lt a) s 0 = some i := by
  cases s with
  | nil => exact absurd rfl hs
  | cons c cs =>
    obtain ⟨b, hb, rfl⟩ := hl c (by simp)
    obtain ⟨a, i, e1, e2, e3, e4⟩ := pickFrom_some (fr := fr) (s := lt b :: cs) (t := n) (a := 0) (b := b) (by omega) (by omega) ⟨0, by simp [firstAt]⟩
    have := firstAt_ge e4
    exact ⟨a, i, e1, by omega, by omega, e4⟩

/-! ### Two ways to the same -/

theorem firstAt_congr {fr gr : UInt8 → UInt8 → Bool} {x : UInt8} : ∀ {s : List UInt8} {k : Nat}, (∀ c ∈ s, fr c x = gr c x) → firstAt fr x s k = firstAt gr x s k
  | [], k, _ => rfl
  | c :: cs, k, h => by
    simp only [firstAt]
    rw [h c (by simp), firstAt_congr (fun d hd => h d (by simp [hd]))]

theorem pickFrom_congr {fr gr : UInt8 → UInt8 → Bool} {s : List UInt8} : ∀ {t a : Nat}, (∀ b, a ≤ b → b < a + t → ∀ c ∈ s, fr c (lt b) = gr c (lt b)) → pickFrom fr s t a = pickFrom gr s t a
  | 0, a, _ => rfl
  | t + 1, a, h => by
    simp only [pickFrom]
    rw [firstAt_congr (h a (Nat.le_refl _) (by omega)), pickFrom_congr (fun b h1 h2 => h b (by omega) (by omega))]

/-- Letters that are not there are not found: more letters change nothing. -/
theorem pickFrom_more {fr : UInt8 → UInt8 → Bool} {s : List UInt8} : ∀ {t u a : Nat}, (∃ x, pickFrom fr s t a = some x) → pickFrom fr s (t + u) a = pickFrom fr s t a
  | 0, u, a, h => by obtain ⟨x, hx⟩ := h; cases hx
  | t + 1, u, a, h => by
    rw [show t + 1 + u = (t + u) + 1 by omega]
    simp only [pickFrom] at h ⊢
    split
    · rfl
    · rename_i hn
      rw [hn] at h
      exact pickFrom_more h

theorem leastF_eq {fr gr : UInt8 → UInt8 → Bool} {n m : Nat} (hnm : n ≤ m) : ∀ {f : Nat} {s : List UInt8}, letters n s → (∀ a b, a < n → b < n → fr (lt a) (lt b) = gr (lt a) (lt b)) → leastF fr n f s = leastF gr m f s
  | 0, s, _, _ => rfl
  | f + 1, s, hl, hfr => by
    simp only [leastF]
    have e1 : pickFrom fr s n 0 = pickFrom gr s n 0 := pickFrom_congr fun b _ h2 c hc => by
      obtain ⟨a, ha, rfl⟩ := hl c hc
      exact hfr a b ha (by omega)
    by_cases hs : s = []
    · subst hs
      have : ∀ t a, pickFrom gr [] t a = none := by
        intro t
        induction t with
        | zero => intro a; rfl
        | succ t ih => intro a; simp [pickFrom, firstAt, ih]
      rw [e1, this, this]
    · obtain ⟨a, i, q1, q2, q3, q4⟩ := pick_some (fr := gr) hs hl
      have e2 : pickFrom gr s m 0 = pickFrom gr s n 0 := by
        rw [show m = n + (m - n) by omega]
        exact pickFrom_more ⟨_, q1⟩
      rw [e1, e2, q1]
      simp only
      rw [leastF_eq hnm (letters_without hl i) hfr]

end Go.Sim
