/-
  Seams are equal exactly if they are the same without all letters but two that do not commute.
-/
import Derived.Test.YtipeennffbbglaaSp1
namespace Go.Sim

/-- A seam without all letters but two. -/
def only (x y : UInt8) (s : List UInt8) : List UInt8 := s.filter fun c => decide (c = x) || decide (c = y)

/-- Two letters whose order counts. -/
def dep (fr : UInt8 → UInt8 → Bool) (a b : UInt8) : Prop := a = b ∨ fr a b = false

theorem firstAt_split {fr : UInt8 → UInt8 → Bool} {x : UInt8} : ∀ {s : List UInt8} {k i : Nat}, firstAt fr x s k = some i → ∃ u v, s = u ++ x :: v ∧ i = k + u.length ∧ ∀ c ∈ u, c ≠ x ∧ fr c x = true
  | [], k, i, h => by simp [firstAt] at h
  | c :: cs, k, i, h => by
    simp only [firstAt] at h
    split at h
    · rename_i hc
      simp at h
      subst h
      subst hc
      exact ⟨[], cs, rfl, by simp, by simp⟩
    · rename_i hc
      split at h
      · rename_i hf
        obtain ⟨u, v, h1, h2, h3⟩ := firstAt_split h
        refine ⟨c :: u, v, by simp [h1], by simp [h2]; omega, ?_⟩
        intro d hd
        rcases List.mem_cons.1 hd with rfl | hd
        · exact ⟨hc, hf⟩
        · exact h3 d hd
      · cases h

theorem without_split (u v : List UInt8) (x : UInt8) : without (u ++ x :: v) u.length = u ++ v := by
  simp [without]

theorem only_append (x y : UInt8) (s t : List UInt8) : only x y (s ++ t) = only x y s ++ only x y t := by simp [only]
theorem only_comm (x y : UInt8) (s : List UInt8) : only x y s = only y x s := by
  unfold only
  congr 1
  funext c
  rw [Bool.or_comm]

theorem only_nil {x y : UInt8} {u : List UInt8} (h : ∀ c ∈ u, c ≠ x ∧ c ≠ y) : only x y u = [] := by
  simp only [only, List.filter_eq_nil_iff]
  intro c hc
  have := h c hc
  simp [this.1, this.2]

section
variable {fr : UInt8 → UInt8 → Bool} (hs : ∀ a b, fr a b = fr b a)
include hs

/-- A letter that can come to the front comes first among those that do not commute with it. -/
theorem only_front {x a d : UInt8} {u v : List UInt8} (hu : ∀ c ∈ u, c ≠ x ∧ fr c x = true) (had : dep fr a d) : only a d (u ++ x :: v) = only a d (x :: (u ++ v)) := by
  have e : only a d (x :: (u ++ v)) = only a d [x] ++ (only a d u ++ only a d v) := by rw [← only_append, ← only_append]; rfl
  have e2 : only a d (u ++ x :: v) = only a d u ++ (only a d [x] ++ only a d v) := by rw [← only_append, ← only_append]; rfl
  rw [e, e2]
  by_cases hx : x = a ∨ x = d
  · have : only a d u = [] := by
      refine only_nil fun c hc => ?_
      obtain ⟨h1, h2⟩ := hu c hc
      rcases hx with rfl | rfl
      · refine ⟨h1, ?_⟩
        rintro rfl
        rcases had with rfl | h
        · exact h1 rfl
        · rw [hs] at h; rw [h] at h2; cases h2
      · refine ⟨?_, h1⟩
        rintro rfl
        rcases had with rfl | h
        · exact h1 rfl
        · rw [h] at h2; cases h2
    rw [this]
    simp
  · have : only a d [x] = [] := only_nil fun c hc => by
      rw [List.mem_singleton] at hc
      subst hc
      exact ⟨fun h => hx (.inl h), fun h => hx (.inr h)⟩
    rw [this]
    simp

theorem only_leastF {a d : UInt8} (had : dep fr a d) {n : Nat} : ∀ (f : Nat) (s : List UInt8), letters n s → s.length = f → only a d (leastF fr n f s) = only a d s
  | 0, s, _, hf => by
    have : s = [] := List.length_eq_zero_iff.1 hf
    subst this
    rfl
  | f + 1, s, hl, hf => by
    obtain ⟨b, i, h1, _, h3, h4⟩ := pick_some (fr := fr) (n := n) (s := s) (by rintro rfl; simp at hf) hl
    simp only [leastF, h1]
    obtain ⟨u, v, e1, e2, e3⟩ := firstAt_split h4
    have hw := without_length h3
    have ih := only_leastF had f (without s i) (letters_without hl i) (by omega)
    have e4 : without s i = u ++ v := by
      rw [e1, e2, Nat.zero_add, without_split]
    rw [e4] at ih
    have e5 : only a d (lt b :: leastF fr n f (without s i)) = only a d (lt b :: (u ++ v)) := by
      have c1 : ∀ w, only a d (lt b :: w) = only a d [lt b] ++ only a d w := fun w => by rw [← only_append]; rfl
      rw [c1 (leastF fr n f (without s i)), c1 (u ++ v), e4, ih]
    rw [e5, e1]
    exact (only_front hs e3 had).symm

omit hs in
/-- What comes first is seen by the pairs. -/
theorem front_only {x : UInt8} {n : Nat} : ∀ {s : List UInt8}, letters n s → ∀ k, (∃ i, firstAt fr x s k = some i) ↔ (only x x s).head? = some x ∧ ∀ c, (∃ a, a < n ∧ c = lt a) → c ≠ x → fr c x = false → (only c x s).head? = some x
  | [], _, k => by simp [firstAt, only]
  | y :: s, hl, k => by
    have ih := front_only (x := x) (n := n) (s := s) (fun c hc => hl c (by simp [hc])) (k + 1)
    have c1 : ∀ a d, only a d (y :: s) = only a d [y] ++ only a d s := fun a d => by rw [← only_append]; rfl
    simp only [firstAt]
    by_cases hy : y = x
    · subst hy
      simp [only]
    · rw [if_neg hy]
      have n1 : only x x [y] = [] := only_nil fun c hc => by rw [List.mem_singleton] at hc; subst hc; exact ⟨hy, hy⟩
      by_cases hf : fr y x = true
      · rw [if_pos hf, ih]
        rw [c1, n1, List.nil_append]
        refine and_congr_right fun _ => forall_congr' fun c => forall_congr' fun _ => forall_congr' fun _ => ?_
        refine forall_congr' fun hcx => ?_
        have : only c x [y] = [] := only_nil fun d hd => by
          rw [List.mem_singleton] at hd
          subst hd
          refine ⟨?_, hy⟩
          rintro rfl
          rw [hf] at hcx
          cases hcx
        rw [c1, this, List.nil_append]
      · rw [if_neg hf]
        refine ⟨fun h => by simp at h, ?_⟩
        rintro ⟨_, h⟩
        have := h y (hl y (by simp)) hy (by simpa using hf)
        simp [only] at this
        exact absurd this hy

omit hs in
theorem pickFrom_same {s t : List UInt8} : ∀ {m a : Nat}, (∀ b, a ≤ b → b < a + m → ((∃ i, firstAt fr (lt b) s 0 = some i) ↔ ∃ i, firstAt fr (lt b) t 0 = some i)) → (pickFrom fr s m a).map Prod.fst = (pickFrom fr t m a).map Prod.fst
  | 0, a, _ => rfl
  | m + 1, a, h => by
    have h0 := h a (Nat.le_refl _) (by omega)
    simp only [pickFrom]
    cases h1 : firstAt fr (lt a) s 0 with
    | some i =>
      obtain ⟨j, hj⟩ := h0.1 ⟨i, h1⟩
      rw [hj]
      rfl
    | none =>
      cases h2 : firstAt fr (lt a) t 0 with
      | some j =>
        obtain ⟨i, hi⟩ := h0.2 ⟨j, h2⟩
        rw [h1] at hi
        cases hi
      | none => exact pickFrom_same fun b hb1 hb2 => h b (by omega) (by omega)

/-- **The same without all letters but two that do not commute: equal.** -/
theorem leastF_of_only {n : Nat} : ∀ (f : Nat) (s t : List UInt8), letters n s → letters n t → s.length = f → (∀ a d, a < n → d < n → dep fr (lt a) (lt d) → only (lt a) (lt d) s = only (lt a) (lt d) t) → t.length = f ∧ leastF fr n f s = leastF fr n f t
  | 0, s, t, _, lt', hf, h => by
    have : s = [] := List.length_eq_zero_iff.1 hf
    subst this
    cases t with
    | nil => exact ⟨rfl, rfl⟩
    | cons c t =>
      obtain ⟨a, ha, rfl⟩ := lt' c (by simp)
      have := h a a ha ha (.inl rfl)
      simp [only] at this
  | f + 1, s, t, ls, lt', hf, h => by
    have hne : s ≠ [] := by rintro rfl; simp at hf
    obtain ⟨a, i, h1, h2, h3, h4⟩ := pick_some (fr := fr) hne ls
    have front : ∀ b, b < n → ((∃ i, firstAt fr (lt b) s 0 = some i) ↔ ∃ i, firstAt fr (lt b) t 0 = some i) := by
      intro b hb
      rw [front_only ls, front_only lt', h b b hb hb (.inl rfl)]
      refine and_congr_right fun _ => forall_congr' fun c => forall_congr' fun hc => forall_congr' fun _ => forall_congr' fun hcx => ?_
      obtain ⟨e, he, rfl⟩ := hc
      rw [h e b he hb (.inr hcx)]
    have hp := pickFrom_same (fr := fr) (s := s) (t := t) (m := n) (a := 0) fun b _ hb => front b (by omega)
    rw [h1] at hp
    cases hq : pickFrom fr t n 0 with
    | none => rw [hq] at hp; cases hp
    | some p =>
      obtain ⟨a', j⟩ := p
      rw [hq] at hp
      simp at hp
      subst hp
      have htne : t ≠ [] := by
        rintro rfl
        have : ∀ m b, pickFrom fr [] m b = none := by
          intro m
          induction m with
          | zero => intro b; rfl
          | succ m ih => intro b; simp [pickFrom, firstAt, ih]
        rw [this] at hq
        cases hq
      obtain ⟨a2, j2, q1, q2, q3, q4⟩ := pick_some (fr := fr) htne lt'
      rw [hq] at q1
      simp at q1
      obtain ⟨rfl, rfl⟩ := q1
      obtain ⟨u, v, e1, e2, e3⟩ := firstAt_split h4
      obtain ⟨u', v', e1', e2', e3'⟩ := firstAt_split q4
      have w1 : without s i = u ++ v := by rw [e1, e2, Nat.zero_add, without_split]
      have w2 : without t j = u' ++ v' := by rw [e1', e2', Nat.zero_add, without_split]
      have hw1 := without_length h3
      have hw2 := without_length q3
      obtain ⟨r1, r2⟩ := leastF_of_only f (without s i) (without t j) (letters_without ls i) (letters_without lt' j) (by omega) (by
        intro b d hb hd hbd
        have := h b d hb hd hbd
        rw [e1, e1', only_front hs e3 hbd, only_front hs e3' hbd] at this
        have c1 : ∀ w, only (lt b) (lt d) (lt a :: w) = only (lt b) (lt d) [lt a] ++ only (lt b) (lt d) w := fun w => by rw [← only_append]; rfl
        rw [c1 (u ++ v), c1 (u' ++ v')] at this
        rw [w1, w2]
        exact List.append_cancel_left this)
      refine ⟨by omega, ?_⟩
      simp only [leastF, h1, hq, r2]

end
end Go.Sim
