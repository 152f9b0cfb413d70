/-
  In which step each letter of a seam is; the steps.
-/
import Derived.Test.YtipeennffbbglaaSp3
namespace Go.Sim

theorem snocInd {α : Type} {p : List α → Prop} (nil : p []) (snoc : ∀ s c, p s → p (s ++ [c])) (s : List α) : p s := by
  have : ∀ r : List α, p r.reverse := by
    intro r
    induction r with
    | nil => exact nil
    | cons c r ih => rw [List.reverse_cons]; exact snoc _ _ ih
  have := this s.reverse
  rwa [List.reverse_reverse] at this

section
variable (fr : UInt8 → UInt8 → Bool)

/-- The step of a letter behind others. -/
def nextH (L : List (UInt8 × Nat)) (c : UInt8) : Nat := L.foldl (fun h p => if fr p.1 c then h else max h (p.2 + 1)) 1
/-- Letters, each with its step. -/
def htsF (s : List UInt8) : List (UInt8 × Nat) := s.foldl (fun L c => L ++ [(c, nextH fr L c)]) []

theorem htsF_snoc (s : List UInt8) (c : UInt8) : htsF fr (s ++ [c]) = htsF fr s ++ [(c, nextH fr (htsF fr s) c)] := by
  unfold htsF
  rw [List.foldl_append]
  rfl

theorem foldH {c : UInt8} : ∀ (L : List (UInt8 × Nat)) (h : Nat), h ≤ L.foldl (fun h p => if fr p.1 c then h else max h (p.2 + 1)) h ∧ (∀ p ∈ L, fr p.1 c = false → p.2 + 1 ≤ L.foldl (fun h p => if fr p.1 c then h else max h (p.2 + 1)) h) ∧
    (L.foldl (fun h p => if fr p.1 c then h else max h (p.2 + 1)) h = h ∨ ∃ p ∈ L, fr p.1 c = false ∧ L.foldl (fun h p => if fr p.1 c then h else max h (p.2 + 1)) h = p.2 + 1)
  | [], h => by simp
  | q :: L, h => by
    simp only [List.foldl_cons]
    obtain ⟨h1, h2, h3⟩ := foldH L (if fr q.1 c then h else max h (q.2 + 1))
    generalize hR : L.foldl (fun h p => if fr p.1 c then h else max h (p.2 + 1)) (if fr q.1 c then h else max h (q.2 + 1)) = R at *
    cases hq : fr q.1 c with
    | true =>
      rw [hq] at h1 h3
      simp only [if_true] at h1 h3
      refine ⟨h1, ?_, ?_⟩
      · intro p hp hf
        rcases List.mem_cons.1 hp with rfl | hp
        · rw [hq] at hf; cases hf
        · exact h2 p hp hf
      · rcases h3 with h3 | ⟨p, hp, hf, he⟩
        · exact .inl h3
        · exact .inr ⟨p, by simp [hp], hf, he⟩
    | false =>
      rw [hq] at h1 h3
      simp only [Bool.false_eq_true, if_false] at h1 h3
      refine ⟨by omega, ?_, ?_⟩
      · intro p hp hf
        rcases List.mem_cons.1 hp with rfl | hp
        · omega
        · exact h2 p hp hf
      · rcases h3 with h3 | ⟨p, hp, hf, he⟩
        · by_cases hm : h ≤ q.2 + 1
          · exact .inr ⟨q, by simp, hq, by omega⟩
          · exact .inl (by omega)
        · exact .inr ⟨p, by simp [hp], hf, he⟩

theorem nextH_pos (L : List (UInt8 × Nat)) (c : UInt8) : 1 ≤ nextH fr L c := (foldH fr L 1).1
theorem nextH_ge {L : List (UInt8 × Nat)} {c : UInt8} {p : UInt8 × Nat} (hp : p ∈ L) (hf : fr p.1 c = false) : p.2 + 1 ≤ nextH fr L c := (foldH fr L 1).2.1 p hp hf
theorem nextH_eq (L : List (UInt8 × Nat)) (c : UInt8) : nextH fr L c = 1 ∨ ∃ p ∈ L, fr p.1 c = false ∧ nextH fr L c = p.2 + 1 := (foldH fr L 1).2.2

theorem htsF_fst (s : List UInt8) : (htsF fr s).map Prod.fst = s := by
  induction s using snocInd with
  | nil => rfl
  | snoc s c ih => rw [htsF_snoc, List.map_append, ih]; rfl

theorem htsF_length (s : List UInt8) : (htsF fr s).length = s.length := by
  have := congrArg List.length (htsF_fst fr s)
  simpa using this

theorem htsF_le (s : List UInt8) : ∀ p ∈ htsF fr s, 1 ≤ p.2 ∧ p.2 ≤ s.length := by
  induction s using snocInd with
  | nil => intro p hp; simp [htsF] at hp
  | snoc s c ih =>
    intro p hp
    rw [htsF_snoc] at hp
    rcases List.mem_append.1 hp with hp | hp
    · have := ih p hp
      simp
      omega
    · rw [List.mem_singleton] at hp
      subst hp
      have h1 := nextH_pos fr (htsF fr s) c
      refine ⟨h1, ?_⟩
      rcases nextH_eq fr (htsF fr s) c with h | ⟨q, hq, _, h⟩
      · simp [h]
      · have := (ih q hq).2
        simp [h]
        omega
end

/-- The greatest step. -/
def maxH (L : List (UInt8 × Nat)) : Nat := L.foldl (fun m p => max m p.2) 0

theorem maxH_snoc (L : List (UInt8 × Nat)) (p : UInt8 × Nat) : maxH (L ++ [p]) = max (maxH L) p.2 := by simp [maxH]

theorem le_maxH {L : List (UInt8 × Nat)} {p : UInt8 × Nat} (hp : p ∈ L) : p.2 ≤ maxH L := by
  induction L using snocInd with
  | nil => simp at hp
  | snoc L q ih =>
    rw [maxH_snoc]
    rcases List.mem_append.1 hp with hp | hp
    · have := ih hp; omega
    · rw [List.mem_singleton] at hp; subst hp; omega

/-- The letters of one step. -/
def grp (L : List (UInt8 × Nat)) (n : Nat) : List UInt8 := (L.filter fun p => decide (p.2 = n)).map Prod.fst
def gsOf (L : List (UInt8 × Nat)) : List (List UInt8) := (List.range (maxH L)).map fun j => grp L (j + 1)

theorem grp_snoc (L : List (UInt8 × Nat)) (c : UInt8) (m n : Nat) : grp (L ++ [(c, m)]) n = if m = n then grp L n ++ [c] else grp L n := by
  unfold grp
  rw [List.filter_append, List.map_append]
  by_cases h : m = n <;> simp [h]

theorem grp_none {L : List (UInt8 × Nat)} {n : Nat} (h : maxH L < n) : grp L n = [] := by
  unfold grp
  rw [List.map_eq_nil_iff, List.filter_eq_nil_iff]
  intro p hp
  have := le_maxH hp
  simp
  omega

theorem gsOf_length (L : List (UInt8 × Nat)) : (gsOf L).length = maxH L := by simp [gsOf]
theorem gsOf_get (L : List (UInt8 × Nat)) {j : Nat} (h : j < maxH L) : (gsOf L)[j]? = some (grp L (j + 1)) := by simp [gsOf, h]

theorem gsOf_new {L : List (UInt8 × Nat)} {c : UInt8} {m : Nat} (h : m = maxH L + 1) : gsOf (L ++ [(c, m)]) = gsOf L ++ [[c]] := by
  subst h
  apply List.ext_getElem?
  intro j
  have hm : maxH (L ++ [(c, maxH L + 1)]) = maxH L + 1 := by rw [maxH_snoc]; show max (maxH L) (maxH L + 1) = _; omega
  rcases Nat.lt_trichotomy j (maxH L) with hj | hj | hj
  · rw [gsOf_get _ (by omega), List.getElem?_append_left (by rw [gsOf_length]; exact hj), gsOf_get _ hj, grp_snoc, if_neg (by omega)]
  · subst hj
    rw [gsOf_get _ (by omega), List.getElem?_append_right (by rw [gsOf_length]; omega), gsOf_length, grp_snoc, if_pos rfl, grp_none (by omega)]
    simp
  · rw [List.getElem?_eq_none (by rw [gsOf_length]; omega), List.getElem?_eq_none (by simp [gsOf_length]; omega)]

theorem gsOf_old {L : List (UInt8 × Nat)} {c : UInt8} {m : Nat} (h1 : 1 ≤ m) (h : m ≤ maxH L) : gsOf (L ++ [(c, m)]) = (gsOf L).set (m - 1) (grp L m ++ [c]) := by
  apply List.ext_getElem?
  intro j
  have hm : maxH (L ++ [(c, m)]) = maxH L := by rw [maxH_snoc]; show max (maxH L) m = _; omega
  by_cases hj : j < maxH L
  · rw [gsOf_get _ (by omega), grp_snoc, List.getElem?_set]
    by_cases hjm : m - 1 = j
    · rw [if_pos hjm, if_pos (show m - 1 < (gsOf L).length by rw [gsOf_length]; omega), if_pos (show m = j + 1 by omega), show j + 1 = m by omega]
    · rw [if_neg hjm, if_neg (show ¬ m = j + 1 by omega), gsOf_get _ hj]
  · rw [List.getElem?_eq_none (by rw [gsOf_length]; omega), List.getElem?_eq_none (by simp [gsOf_length]; omega)]

section
variable {fr : UInt8 → UInt8 → Bool}

theorem nextH_le_max (L : List (UInt8 × Nat)) (c : UInt8) : nextH fr L c ≤ maxH L + 1 := by
  rcases nextH_eq fr L c with h | ⟨p, hp, _, h⟩
  · omega
  · have := le_maxH hp; omega

theorem grp_some {s : List UInt8} : ∀ n, 1 ≤ n → n ≤ maxH (htsF fr s) → grp (htsF fr s) n ≠ [] := by
  induction s using snocInd with
  | nil => intro n h1 h2; simp [htsF, maxH] at h2; omega
  | snoc s c ih =>
    intro n h1 h2
    rw [htsF_snoc] at h2 ⊢
    rw [maxH_snoc] at h2
    have := nextH_le_max (fr := fr) (htsF fr s) c
    rw [grp_snoc]
    by_cases hn : nextH fr (htsF fr s) c = n
    · rw [if_pos hn]; simp
    · rw [if_neg hn]
      exact ih n h1 (by simp only at h2; omega)

/-- The letters of one step commute with each other. -/
theorem grp_free {s : List UInt8} (n : Nat) : (grp (htsF fr s) n).Pairwise fun a b => fr a b = true := by
  induction s using snocInd with
  | nil => simp [htsF, grp]
  | snoc s c ih =>
    rw [htsF_snoc, grp_snoc]
    split
    · rename_i hn
      rw [List.pairwise_append]
      refine ⟨ih, by simp, ?_⟩
      intro a ha b hb
      rw [List.mem_singleton] at hb
      subst hb
      unfold grp at ha
      obtain ⟨p, hp, rfl⟩ := List.mem_map.1 ha
      obtain ⟨hp, hpn⟩ := List.mem_filter.1 hp
      simp only [decide_eq_true_eq] at hpn
      cases hf : fr p.1 b with
      | true => rfl
      | false =>
        have := nextH_ge fr hp hf
        omega
    · exact ih

theorem grp_mem {s : List UInt8} {n : Nat} {c : UInt8} (h : c ∈ grp (htsF fr s) n) : c ∈ s := by
  unfold grp at h
  obtain ⟨p, hp, rfl⟩ := List.mem_map.1 h
  have := (List.mem_filter.1 hp).1
  rw [← htsF_fst fr s]
  exact List.mem_map_of_mem this

theorem grp_letters {s : List UInt8} {k : Nat} (hs : letters k s) (n : Nat) : letters k (grp (htsF fr s) n) := fun c hc => hs c (grp_mem hc)
end

/-! ### Sorting -/

/-- Letters in their order. -/
def srt (g : List UInt8) : List UInt8 := (List.range 6).flatMap fun a => g.filter fun c => decide (c = lt a)

theorem srtUpto {g : List UInt8} : ∀ n, n ≤ 100 → ∀ c ∈ (List.range n).flatMap (fun a => g.filter fun c => decide (c = lt a)), ∃ a, a < n ∧ c = lt a := by
  intro n _ c hc
  obtain ⟨a, ha, hc⟩ := List.mem_flatMap.1 hc
  simp at hc
  exact ⟨a, List.mem_range.1 ha, hc.2⟩

theorem srt_sorted (g : List UInt8) : (srt g).Pairwise fun a b => a.toNat ≤ b.toNat := by
  unfold srt
  have : ∀ n, n ≤ 100 → ((List.range n).flatMap fun a => g.filter fun c => decide (c = lt a)).Pairwise fun a b => a.toNat ≤ b.toNat := by
    intro n
    induction n with
    | zero => intro _; simp
    | succ n ih =>
      intro hn
      rw [List.range_succ, List.flatMap_append, List.pairwise_append]
      refine ⟨ih (by omega), ?_, ?_⟩
      · simp only [List.flatMap_cons, List.flatMap_nil, List.append_nil]
        rw [List.pairwise_iff_forall_sublist]
        intro a b hab
        have ha : a ∈ g.filter fun c => decide (c = lt n) := hab.subset (by simp)
        have hb : b ∈ g.filter fun c => decide (c = lt n) := hab.subset (by simp)
        simp at ha hb
        rw [ha.2, hb.2]
        exact Nat.le_refl _
      · intro a ha b hb
        obtain ⟨x, hx, rfl⟩ := srtUpto n (by omega) a ha
        simp at hb
        rw [hb.2, lt_toNat (by omega), lt_toNat (by omega)]
        omega
  exact this 6 (by omega)

theorem srt_count (g : List UInt8) (hg : letters 6 g) (c : UInt8) : (srt g).count c = g.count c := by
  have key : ∀ n, n ≤ 6 → ((List.range n).flatMap fun a => g.filter fun c => decide (c = lt a)).count c = if (∃ a, a < n ∧ c = lt a) then g.count c else 0 := by
    intro n
    induction n with
    | zero => intro _; simp
    | succ n ih =>
      intro hn
      rw [List.range_succ, List.flatMap_append, List.count_append, ih (by omega)]
      simp only [List.flatMap_cons, List.flatMap_nil, List.append_nil]
      by_cases hc : c = lt n
      · subst hc
        have h1 : ¬ ∃ a, a < n ∧ lt n = lt a := by
          rintro ⟨a, ha, e⟩
          have := lt_inj (by omega) (by omega) e
          omega
        rw [if_neg h1, if_pos ⟨n, by omega, rfl⟩, Nat.zero_add]
        exact List.count_filter (by simp)
      · have h2 : (g.filter fun c => decide (c = lt n)).count c = 0 := by
          rw [List.count_eq_zero]
          intro hm
          simp at hm
          exact hc hm.2
        rw [h2, Nat.add_zero]
        have : (∃ a, a < n ∧ c = lt a) ↔ ∃ a, a < n + 1 ∧ c = lt a := by
          constructor
          · rintro ⟨a, ha, e⟩; exact ⟨a, by omega, e⟩
          · rintro ⟨a, ha, e⟩
            refine ⟨a, ?_, e⟩
            apply Classical.byContradiction
            intro hh
            have : a = n := by omega
            subst this
            exact hc e
        by_cases hx : ∃ a, a < n ∧ c = lt a
        · rw [if_pos hx, if_pos (this.1 hx)]
        · rw [if_neg hx, if_neg (fun h => hx (this.2 h))]
  have := key 6 (Nat.le_refl _)
  unfold srt
  rw [this]
  split
  · rfl
  · rename_i hno
    symm
    rw [List.count_eq_zero]
    intro hm
    exact hno (hg c hm)

theorem srt_perm {g : List UInt8} (hg : letters 6 g) : (srt g).Perm g := List.perm_iff_count.2 (srt_count g hg)

theorem sorted_unique : ∀ {a b : List UInt8}, a.Perm b → (a.Pairwise fun x y => x.toNat ≤ y.toNat) → (b.Pairwise fun x y => x.toNat ≤ y.toNat) → a = b := by
  intro a b hp ha hb
  refine List.Perm.eq_of_pairwise ?_ ha hb hp
  intro x y _ _ h1 h2
  exact UInt8.toNat_inj.1 (Nat.le_antisymm h1 h2)

/-- Commuting letters: at most one of each. -/
theorem grp_len {fr : UInt8 → UInt8 → Bool} {g : List UInt8} (hg : letters 6 g) (hself : ∀ a, a < 6 → fr (lt a) (lt a) = false) (hf : g.Pairwise fun a b => fr a b = true) : g.length ≤ 6 := by
  have h1 : ∀ a, a < 6 → (g.filter fun c => decide (c = lt a)).length ≤ 1 := by
    intro a ha
    apply Classical.byContradiction
    intro hh
    match hfl : g.filter (fun c => decide (c = lt a)) with
    | [] => rw [hfl] at hh; simp at hh
    | [x] => rw [hfl] at hh; simp at hh
    | x :: y :: r =>
      have hsub : (x :: y :: r).Sublist g := hfl ▸ List.filter_sublist
      have hp := hf.sublist hsub
      have hx : x ∈ g.filter fun c => decide (c = lt a) := by rw [hfl]; simp
      have hy : y ∈ g.filter fun c => decide (c = lt a) := by rw [hfl]; simp
      simp at hx hy
      have := (List.pairwise_cons.1 hp).1 y (by simp)
      rw [hx.2, hy.2, hself a ha] at this
      cases this
  have h2 : (srt g).length = g.length := (srt_perm hg).length_eq
  rw [← h2]
  unfold srt
  have key : ∀ n, n ≤ 6 → ((List.range n).flatMap fun a => g.filter fun c => decide (c = lt a)).length ≤ n := by
    intro n
    induction n with
    | zero => intro _; simp
    | succ n ih =>
      intro hn
      rw [List.range_succ, List.flatMap_append, List.length_append]
      have := ih (by omega)
      have := h1 n (by omega)
      simp only [List.flatMap_cons, List.flatMap_nil, List.append_nil]
      omega
  exact key 6 (Nat.le_refl _)

end Go.Sim
