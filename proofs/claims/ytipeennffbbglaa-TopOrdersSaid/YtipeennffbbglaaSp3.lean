/-
  Seams up to the exchange of letters that commute: beginnings, what follows them, what two have in common.
-/
import Derived.Test.YtipeennffbbglaaSp2
namespace Go.Sim

def divG (fr : UInt8 → UInt8 → Bool) : List UInt8 → List UInt8 → Option (List UInt8)
  | [], u => some u
  | c :: cs, u => match firstAt fr c u 0 with
    | some i => divG fr cs (without u i)
    | none => none

/-- Equal seams. -/
def eqv (fr : UInt8 → UInt8 → Bool) (n : Nat) (s t : List UInt8) : Prop := ∀ a d, a < n → d < n → dep fr (lt a) (lt d) → only (lt a) (lt d) s = only (lt a) (lt d) t

/-- A letter can come first. -/
def first (fr : UInt8 → UInt8 → Bool) (x : UInt8) (s : List UInt8) : Prop := ∃ i, firstAt fr x s 0 = some i

theorem eqv.refl (fr : UInt8 → UInt8 → Bool) (n : Nat) (s : List UInt8) : eqv fr n s s := fun _ _ _ _ _ => rfl
theorem eqv.symm {fr : UInt8 → UInt8 → Bool} {n : Nat} {s t : List UInt8} (h : eqv fr n s t) : eqv fr n t s := fun a d h1 h2 h3 => (h a d h1 h2 h3).symm
theorem eqv.trans {fr : UInt8 → UInt8 → Bool} {n : Nat} {s t u : List UInt8} (h : eqv fr n s t) (k : eqv fr n t u) : eqv fr n s u := fun a d h1 h2 h3 => (h a d h1 h2 h3).trans (k a d h1 h2 h3)
theorem eqv.append {fr : UInt8 → UInt8 → Bool} {n : Nat} {s t s' t' : List UInt8} (h : eqv fr n s t) (k : eqv fr n s' t') : eqv fr n (s ++ s') (t ++ t') := fun a d h1 h2 h3 => by
  rw [only_append, only_append, h a d h1 h2 h3, k a d h1 h2 h3]
theorem eqv.cancel {fr : UInt8 → UInt8 → Bool} {n : Nat} {u s t : List UInt8} (h : eqv fr n (u ++ s) (u ++ t)) : eqv fr n s t := fun a d h1 h2 h3 => by
  have := h a d h1 h2 h3
  rw [only_append, only_append] at this
  exact List.append_cancel_left this
theorem eqv.cons {fr : UInt8 → UInt8 → Bool} {n : Nat} {s t : List UInt8} (x : UInt8) (h : eqv fr n s t) : eqv fr n (x :: s) (x :: t) := eqv.append (eqv.refl fr n [x]) h
theorem eqv.uncons {fr : UInt8 → UInt8 → Bool} {n : Nat} {x : UInt8} {s t : List UInt8} (h : eqv fr n (x :: s) (x :: t)) : eqv fr n s t := eqv.cancel (u := [x]) h

theorem letters_append {n : Nat} {s t : List UInt8} (hs : letters n s) (ht : letters n t) : letters n (s ++ t) := fun c hc => by
  rcases List.mem_append.1 hc with h | h
  · exact hs c h
  · exact ht c h
theorem letters_left {n : Nat} {s t : List UInt8} (h : letters n (s ++ t)) : letters n s := fun c hc => h c (List.mem_append_left _ hc)
theorem letters_right {n : Nat} {s t : List UInt8} (h : letters n (s ++ t)) : letters n t := fun c hc => h c (List.mem_append_right _ hc)
theorem letters_cons {n : Nat} {x : UInt8} {s : List UInt8} (h : letters n (x :: s)) : (∃ a, a < n ∧ x = lt a) ∧ letters n s := ⟨h x (by simp), fun c hc => h c (by simp [hc])⟩

theorem firstAt_shift {fr : UInt8 → UInt8 → Bool} {x : UInt8} : ∀ {s : List UInt8} {k : Nat}, firstAt fr x s k = (firstAt fr x s 0).map (· + k)
  | [], k => rfl
  | c :: cs, k => by
    simp only [firstAt]
    split
    · simp
    · split
      · rw [firstAt_shift (k := k + 1), firstAt_shift (k := 0 + 1)]
        cases firstAt fr x cs 0 with
        | none => rfl
        | some i => simp; omega
      · rfl

/-- Where a letter comes first in two seams, one after the other. -/
theorem first_append {fr : UInt8 → UInt8 → Bool} {x : UInt8} {s : List UInt8} : ∀ {m : List UInt8} {k i : Nat}, firstAt fr x (m ++ s) k = some i →
    (firstAt fr x m k = some i) ∨ ((∀ c ∈ m, c ≠ x ∧ fr c x = true) ∧ ∃ j, firstAt fr x s 0 = some j ∧ i = k + m.length + j)
  | [], k, i, h => by
    rw [List.nil_append, firstAt_shift] at h
    simp only [Option.map_eq_some_iff] at h
    obtain ⟨j, h1, h2⟩ := h
    exact .inr ⟨by simp, j, h1, by simp; omega⟩
  | c :: m, k, i, h => by
    simp only [List.cons_append, firstAt] at h ⊢
    split at h
    · rename_i hc; rw [if_pos hc]; exact .inl h
    · rename_i hc
      rw [if_neg hc]
      split at h
      · rename_i hf
        rw [if_pos hf]
        rcases first_append h with h1 | ⟨h1, j, h2, h3⟩
        · exact .inl h1
        · refine .inr ⟨fun d hd => ?_, j, h2, by simp; omega⟩
          rcases List.mem_cons.1 hd with rfl | hd
          · exact ⟨hc, hf⟩
          · exact h1 d hd
      · cases h

theorem first_left {fr : UInt8 → UInt8 → Bool} {x : UInt8} {s : List UInt8} : ∀ {m : List UInt8} {k i : Nat}, firstAt fr x m k = some i → firstAt fr x (m ++ s) k = some i
  | [], k, i, h => by simp [firstAt] at h
  | c :: m, k, i, h => by
    simp only [List.cons_append, firstAt] at h ⊢
    split at h
    · rename_i hc; rw [if_pos hc]; exact h
    · rename_i hc
      rw [if_neg hc]
      split at h
      · rename_i hf; rw [if_pos hf]; exact first_left h
      · cases h

theorem first_over {fr : UInt8 → UInt8 → Bool} {x : UInt8} {s : List UInt8} : ∀ {m : List UInt8}, (∀ c ∈ m, c ≠ x ∧ fr c x = true) → first fr x s → first fr x (m ++ s)
  | [], _, h => h
  | c :: m, hm, h => by
    obtain ⟨i, hi⟩ := first_over (m := m) (fun d hd => hm d (by simp [hd])) h
    obtain ⟨h1, h2⟩ := hm c (by simp)
    refine ⟨i + 1, ?_⟩
    simp only [List.cons_append, firstAt, if_neg h1, if_pos h2]
    rw [firstAt_shift, hi]
    rfl

theorem without_left {m s : List UInt8} {i : Nat} (h : i < m.length) : without (m ++ s) i = without m i ++ s := by
  unfold without
  rw [List.take_append_of_le_length (by omega), List.drop_append_of_le_length (by omega), List.append_assoc]

theorem firstAt_lt' {fr : UInt8 → UInt8 → Bool} {x : UInt8} {s : List UInt8} {i : Nat} (h : firstAt fr x s 0 = some i) : i < s.length := by
  have := firstAt_ge h
  omega

section
variable {fr : UInt8 → UInt8 → Bool} (hs : ∀ a b, fr a b = fr b a) {n : Nat}

include hs in
/-- A letter that can come first may as well stand first. -/
theorem eqv_front {x : UInt8} {s : List UInt8} {i : Nat} (h : firstAt fr x s 0 = some i) : eqv fr n (x :: without s i) s := by
  obtain ⟨u, v, e1, e2, e3⟩ := firstAt_split h
  have e4 : without s i = u ++ v := by rw [e1, e2, Nat.zero_add, without_split]
  intro a d ha hd had
  rw [e4, e1, only_front hs e3 had]

theorem eqv_first {s t : List UInt8} (ls : letters n s) (lt' : letters n t) (h : eqv fr n s t) {b : Nat} (hb : b < n) (hf : first fr (lt b) s) : first fr (lt b) t := by
  have := (front_only (x := lt b) ls 0).1 hf
  rw [h b b hb hb (.inl rfl)] at this
  refine (front_only (x := lt b) lt' 0).2 ⟨this.1, fun c hc h1 h2 => ?_⟩
  obtain ⟨e, he, rfl⟩ := hc
  rw [← h e b he hb (.inr h2)]
  exact this.2 _ ⟨e, he, rfl⟩ h1 h2

include hs in
theorem eqv_without {s t : List UInt8} {x : UInt8} {i j : Nat} (h : eqv fr n s t) (hi : firstAt fr x s 0 = some i) (hj : firstAt fr x t 0 = some j) : eqv fr n (without s i) (without t j) :=
  eqv.uncons (((eqv_front hs hi).trans h).trans (eqv_front hs hj).symm)

include hs in
theorem eqv_length {s t : List UInt8} (ls : letters n s) (lt' : letters n t) (h : eqv fr n s t) : t.length = s.length := (leastF_of_only hs s.length s t ls lt' rfl h).1

include hs in
theorem eqv_iff {s t : List UInt8} (ls : letters n s) (lt' : letters n t) : eqv fr n s t ↔ leastF fr n s.length s = leastF fr n t.length t := by
  constructor
  · intro h
    obtain ⟨h1, h2⟩ := leastF_of_only hs s.length s t ls lt' rfl h
    rw [h1, h2]
  · intro h a d _ _ had
    rw [← only_leastF hs had s.length s ls rfl, ← only_leastF hs had t.length t lt' rfl, h]

include hs in
theorem eqv_least {s : List UInt8} (ls : letters n s) : eqv fr n (leastF fr n s.length s) s := fun _ _ _ _ had => only_leastF hs had s.length s ls rfl

theorem leastF_letters : ∀ {f : Nat} {s : List UInt8}, letters n s → s.length = f → letters n (leastF fr n f s) ∧ (leastF fr n f s).length = f
  | 0, s, _, _ => ⟨fun c hc => by simp [leastF] at hc, rfl⟩
  | f + 1, s, ls, hf => by
    obtain ⟨a, i, h1, h2, h3, _⟩ := pick_some (fr := fr) (n := n) (s := s) (by rintro rfl; simp at hf) ls
    have hw := without_length h3
    obtain ⟨q1, q2⟩ := leastF_letters (f := f) (letters_without ls i) (by omega)
    simp only [leastF, h1]
    refine ⟨fun c hc => ?_, by simp [q2]⟩
    rcases List.mem_cons.1 hc with rfl | hc
    · exact ⟨a, h2, rfl⟩
    · exact q1 c hc

/-! ### Beginnings -/

include hs in
theorem divG_sound : ∀ {s t r : List UInt8}, divG fr s t = some r → eqv fr n (s ++ r) t
  | [], t, r, h => by simp [divG] at h; subst h; exact eqv.refl _ _ _
  | c :: s, t, r, h => by
    simp only [divG] at h
    split at h
    · rename_i i hi
      have := divG_sound (s := s) h
      exact (eqv.cons c this).trans (eqv_front hs hi)
    · cases h

include hs in
theorem divG_complete : ∀ {s t r : List UInt8}, letters n s → letters n t → letters n r → eqv fr n (s ++ r) t → ∃ r', divG fr s t = some r' ∧ eqv fr n r' r ∧ letters n r'
  | [], t, r, _, lt', _, h => ⟨t, rfl, h.symm, lt'⟩
  | c :: s, t, r, ls, lt', lr, h => by
    obtain ⟨⟨b, hb, rfl⟩, ls'⟩ := letters_cons ls
    have hf : first fr (lt b) (lt b :: (s ++ r)) := ⟨0, by simp [firstAt]⟩
    obtain ⟨i, hi⟩ := eqv_first (letters_append ls lr) lt' h hb hf
    have h0 : firstAt fr (lt b) (lt b :: s ++ r) 0 = some 0 := by simp [firstAt]
    have hw : without (lt b :: s ++ r) 0 = s ++ r := by simp [without]
    have := eqv_without hs h h0 hi
    rw [hw] at this
    obtain ⟨r', q1, q2, q3⟩ := divG_complete ls' (letters_without lt' i) lr this
    exact ⟨r', by simp only [divG, hi, q1], q2, q3⟩

include hs in
theorem divG_length {s t r : List UInt8} (ls : letters n s) (lt' : letters n t) (lr : letters n r) (h : divG fr s t = some r) : t.length = s.length + r.length := by
  have := eqv_length hs (letters_append ls lr) lt' (divG_sound hs h)
  simpa using this

theorem divG_letters' : ∀ {s t r : List UInt8}, letters n t → divG fr s t = some r → letters n r
  | [], t, r, lt', h => by simp [divG] at h; subst h; exact lt'
  | c :: s, t, r, lt', h => by
    simp only [divG] at h
    split at h
    · rename_i i hi; exact divG_letters' (letters_without lt' i) h
    · cases h

/-! ### What two seams have in common -/

/-- No letter can come first in both. -/
def apartF (fr : UInt8 → UInt8 → Bool) (n : Nat) (s t : List UInt8) : Prop := ∀ b, b < n → first fr (lt b) s → first fr (lt b) t → False

theorem apartF.symm {s t : List UInt8} (h : apartF fr n s t) : apartF fr n t s := fun b hb h1 h2 => h b hb h2 h1

theorem apartF.congr {s t s' t' : List UInt8} (ls : letters n s) (lt' : letters n t) (ls' : letters n s') (ltt : letters n t') (h1 : eqv fr n s' s) (h2 : eqv fr n t' t) (h : apartF fr n s t) : apartF fr n s' t' :=
  fun b hb f1 f2 => h b hb (eqv_first ls' ls h1 hb f1) (eqv_first ltt lt' h2 hb f2)

include hs in
/-- **The common beginning of two seams is one.** -/
theorem meet_unique : ∀ {m m2 s t s1 t1 s2 t2 : List UInt8}, letters n m → letters n m2 → letters n s1 → letters n t1 → letters n s2 → letters n t2 → letters n s → letters n t →
    eqv fr n (m ++ s1) s → eqv fr n (m ++ t1) t → apartF fr n s1 t1 → eqv fr n (m2 ++ s2) s → eqv fr n (m2 ++ t2) t → apartF fr n s2 t2 → eqv fr n m m2
  | [], [], _, _, _, _, _, _, _, _, _, _, _, _, _, _, _, _, _, _, _, _ => eqv.refl _ _ _
  | [], y :: m2, s, t, s1, t1, s2, t2, lm, lm2, ls1, lt1, ls2, lt2, ls, lt', h1, h2, h3, h4, h5, h6 => by
    exfalso
    obtain ⟨⟨b, hb, rfl⟩, _⟩ := letters_cons lm2
    have f1 : first fr (lt b) (lt b :: m2 ++ s2) := ⟨0, by simp [firstAt]⟩
    have f2 : first fr (lt b) (lt b :: m2 ++ t2) := ⟨0, by simp [firstAt]⟩
    exact h3 b hb (eqv_first ls ls1 h1.symm hb (eqv_first (letters_append lm2 ls2) ls h4 hb f1)) (eqv_first lt' lt1 h2.symm hb (eqv_first (letters_append lm2 lt2) lt' h5 hb f2))
  | x :: m, m2, s, t, s1, t1, s2, t2, lm, lm2, ls1, lt1, ls2, lt2, ls, lt', h1, h2, h3, h4, h5, h6 => by
    obtain ⟨⟨b, hb, rfl⟩, lm'⟩ := letters_cons lm
    have z1 : firstAt fr (lt b) (lt b :: m ++ s1) 0 = some 0 := by simp [firstAt]
    have z2 : firstAt fr (lt b) (lt b :: m ++ t1) 0 = some 0 := by simp [firstAt]
    obtain ⟨i, hi⟩ := eqv_first (letters_append lm ls1) ls h1 hb ⟨0, z1⟩
    obtain ⟨j, hj⟩ := eqv_first (letters_append lm lt1) lt' h2 hb ⟨0, z2⟩
    obtain ⟨i2, hi2⟩ := eqv_first ls (letters_append lm2 ls2) h4.symm hb ⟨i, hi⟩
    obtain ⟨j2, hj2⟩ := eqv_first lt' (letters_append lm2 lt2) h5.symm hb ⟨j, hj⟩
    have w1 : without (lt b :: m ++ s1) 0 = m ++ s1 := by simp [without]
    have w2 : without (lt b :: m ++ t1) 0 = m ++ t1 := by simp [without]
    have e1 := eqv_without hs h1 z1 hi
    have e2 := eqv_without hs h2 z2 hj
    rw [w1] at e1
    rw [w2] at e2
    rcases first_append hi2 with a1 | ⟨a1, a2, a3, _⟩
    · have hlt := firstAt_lt' a1
      have a1' := first_left (s := t2) a1
      rw [hj2] at a1'
      obtain rfl : j2 = i2 := by simpa using a1'
      have e4 := eqv_without hs h4 hi2 hi
      have e5 := eqv_without hs h5 hj2 hj
      rw [without_left hlt] at e4 e5
      have := meet_unique lm' (letters_without lm2 j2) ls1 lt1 ls2 lt2 (letters_without ls i) (letters_without lt' j) e1 e2 h3 e4 e5 h6
      exact (eqv.cons (lt b) this).trans (eqv_front hs a1)
    · exfalso
      rcases first_append hj2 with b1 | ⟨_, b2, b3, _⟩
      · obtain ⟨u, v, q1, _, _⟩ := firstAt_split b1
        exact (a1 (lt b) (by rw [q1]; simp)).1 rfl
      · exact h6 b hb ⟨a2, a3⟩ ⟨b2, b3⟩
termination_by m => m.length

include hs in
/-- **Levi's lemma**: two seams that are equal, cut in two, and the first halves have no first letter in common. -/
theorem levi : ∀ {z y t v : List UInt8}, letters n z → letters n y → letters n t → letters n v → eqv fr n (y ++ t) (z ++ v) → apartF fr n y z →
    (∀ c ∈ y, ∀ d ∈ z, c ≠ d ∧ fr c d = true) ∧ ∃ r, letters n r ∧ eqv fr n (z ++ r) t ∧ eqv fr n (y ++ r) v
  | [], y, t, v, _, ly, lt', lv, h, _ => ⟨fun c _ d hd => by simp at hd, t, lt', eqv.refl _ _ _, h⟩
  | x :: z, y, t, v, lz, ly, lt', lv, h, hap => by
    obtain ⟨⟨b, hb, rfl⟩, lz'⟩ := letters_cons lz
    have z0 : firstAt fr (lt b) (lt b :: z ++ v) 0 = some 0 := by simp [firstAt]
    obtain ⟨i, hi⟩ := eqv_first (letters_append lz lv) (letters_append ly lt') h.symm hb ⟨0, z0⟩
    rcases first_append hi with a1 | ⟨a1, j, a2, a3⟩
    · exact absurd ⟨0, by simp [firstAt]⟩ (fun f => hap b hb ⟨i, a1⟩ f)
    · -- the letter commutes with all of y and stands first in t
      have w0 : without (lt b :: z ++ v) 0 = z ++ v := by simp [without]
      have hfront : firstAt fr (lt b) (y ++ t) 0 = some i := hi
      have e1 := eqv_without hs h hfront z0
      have wy : without (y ++ t) i = y ++ without t j := by
        have hij : i = y.length + j := by omega
        subst hij
        unfold without
        rw [List.take_append, List.drop_append]
        have h1 : y.take (y.length + j) = y := List.take_of_length_le (by omega)
        have h2 : y.drop (y.length + j + 1) = [] := List.drop_eq_nil_of_le (by omega)
        rw [h1, h2, show y.length + j - y.length = j by omega, show y.length + j + 1 - y.length = j + 1 by omega]
        simp
      rw [w0, wy] at e1
      have hap' : apartF fr n y z := by
        intro c hc f1 f2
        have hcb : lt c ≠ lt b ∧ fr (lt c) (lt b) = true := by
          obtain ⟨k, hk⟩ := f1
          obtain ⟨u, w, q1, _, _⟩ := firstAt_split hk
          exact a1 (lt c) (by rw [q1]; simp)
        refine hap c hc f1 ?_
        have := first_over (fr := fr) (x := lt c) (m := [lt b]) (s := z) (by
          intro d hd
          rw [List.mem_singleton] at hd
          subst hd
          exact ⟨fun h => hcb.1 h.symm, by rw [hs]; exact hcb.2⟩) f2
        exact this
      obtain ⟨q1, r, lr, q2, q3⟩ := levi lz' ly (letters_without lt' j) lv e1 hap'
      refine ⟨fun c hc d hd => ?_, r, lr, (eqv.cons (lt b) q2).trans (eqv_front hs a2), q3⟩
      rcases List.mem_cons.1 hd with rfl | hd
      · exact a1 c hc
      · exact q1 c hc d hd

theorem only_comm_lists {a d : UInt8} (had : dep fr a d) : ∀ {y z : List UInt8}, (∀ c ∈ y, ∀ e ∈ z, c ≠ e ∧ fr c e = true) → (∀ a b, fr a b = fr b a) → only a d (y ++ z) = only a d (z ++ y) := by
  intro y z h hs
  rw [only_append, only_append]
  -- one of the two holds none of the letters
  by_cases hy : only a d y = []
  · rw [hy]; simp
  · by_cases hz : only a d z = []
    · rw [hz]; simp
    · exfalso
      obtain ⟨c, hc⟩ := List.exists_mem_of_ne_nil _ hy
      obtain ⟨e, he⟩ := List.exists_mem_of_ne_nil _ hz
      simp only [only, List.mem_filter, Bool.or_eq_true, decide_eq_true_eq] at hc he
      obtain ⟨h1, h2⟩ := h c hc.1 e he.1
      rcases hc.2 with rfl | rfl <;> rcases he.2 with rfl | rfl
      · exact h1 rfl
      · rcases had with h3 | h3
        · exact h1 h3
        · rw [h3] at h2; cases h2
      · rcases had with h3 | h3
        · exact h1 h3.symm
        · rw [hs, h3] at h2; cases h2
      · exact h1 rfl

include hs in
theorem eqv_comm {y z : List UInt8} (h : ∀ c ∈ y, ∀ e ∈ z, c ≠ e ∧ fr c e = true) : eqv fr n (y ++ z) (z ++ y) := fun _ _ _ _ had => only_comm_lists had h hs

theorem mem_only_of_eqv {s t : List UInt8} {a : Nat} (ha : a < n) (h : eqv fr n s t) (hm : lt a ∈ s) : lt a ∈ t := by
  have := h a a ha ha (.inl rfl)
  have hm' : lt a ∈ only (lt a) (lt a) s := by simp [only, hm]
  rw [this] at hm'
  simp [only] at hm'
  exact hm'
end
end Go.Sim
