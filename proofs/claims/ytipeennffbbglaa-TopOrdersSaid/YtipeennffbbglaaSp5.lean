/-
  Equal seams have the same steps; the steps, one after the other, are an equal seam; the least one is not greater.
-/
import Derived.Test.YtipeennffbbglaaSp4
namespace Go.Sim

section
variable {fr : UInt8 → UInt8 → Bool}

theorem nextH_congr {L L' : List (UInt8 × Nat)} (h : L.Perm L') (c : UInt8) : nextH fr L c = nextH fr L' c := by
  have key : ∀ {L L' : List (UInt8 × Nat)}, L.Perm L' → nextH fr L c ≤ nextH fr L' c := by
    intro L L' h
    rcases nextH_eq fr L c with h0 | ⟨p, hp, hf, he⟩
    · rw [h0]; exact nextH_pos _ _ _
    · rw [he]; exact nextH_ge fr (h.mem_iff.1 hp) hf
  exact Nat.le_antisymm (key h) (key h.symm)

def htsG (fr : UInt8 → UInt8 → Bool) (L : List (UInt8 × Nat)) (s : List UInt8) : List (UInt8 × Nat) := s.foldl (fun L c => L ++ [(c, nextH fr L c)]) L

theorem htsG_cons (L : List (UInt8 × Nat)) (c : UInt8) (s : List UInt8) : htsG fr L (c :: s) = htsG fr (L ++ [(c, nextH fr L c)]) s := rfl

theorem htsG_perm : ∀ {s : List UInt8} {L L' : List (UInt8 × Nat)}, L.Perm L' → (htsG fr L s).Perm (htsG fr L' s)
  | [], _, _, h => h
  | c :: s, L, L', h => by
    rw [htsG_cons, htsG_cons, nextH_congr h c]
    exact htsG_perm (h.append_right _)

theorem nextH_skip {L : List (UInt8 × Nat)} {a c : UInt8} {n : Nat} (h : fr a c = true) : nextH fr (L ++ [(a, n)]) c = nextH fr L c := by
  unfold nextH
  rw [List.foldl_append]
  simp [h]

/-- A letter that commutes with those before it may as well come first. -/
theorem htsG_front (hs : ∀ a b, fr a b = fr b a) {c : UInt8} {v : List UInt8} : ∀ {u : List UInt8} {L : List (UInt8 × Nat)}, (∀ a ∈ u, fr a c = true) → (htsG fr L (u ++ c :: v)).Perm (htsG fr L (c :: (u ++ v)))
  | [], L, _ => List.Perm.refl _
  | a :: u, L, h => by
    have ha := h a (by simp)
    have ih := htsG_front hs (c := c) (v := v) (u := u) (L := L ++ [(a, nextH fr L a)]) (fun b hb => h b (by simp [hb]))
    rw [List.cons_append, htsG_cons]
    refine ih.trans ?_
    rw [htsG_cons, List.cons_append, htsG_cons, htsG_cons, nextH_skip ha, nextH_skip (by rw [hs]; exact ha)]
    refine htsG_perm ?_
    rw [List.append_assoc, List.append_assoc]
    exact List.Perm.append_left _ (List.Perm.swap _ _ [])

theorem htsG_eqv (hs : ∀ a b, fr a b = fr b a) {n : Nat} : ∀ {t s : List UInt8} {L L' : List (UInt8 × Nat)}, letters n s → letters n t → L.Perm L' → eqv fr n s t → (htsG fr L s).Perm (htsG fr L' t)
  | [], s, L, L', ls, lt', hL, h => by
    have : s = [] := by
      have := eqv_length hs lt' ls h.symm
      exact List.length_eq_zero_iff.1 this
    subst this
    exact hL
  | c :: t, s, L, L', ls, lt', hL, h => by
    obtain ⟨⟨b, hb, rfl⟩, lt2⟩ := letters_cons lt'
    have z0 : firstAt fr (lt b) (lt b :: t) 0 = some 0 := by simp [firstAt]
    obtain ⟨i, hi⟩ := eqv_first lt' ls h.symm hb ⟨0, z0⟩
    have hw := eqv_without hs h hi z0
    have w0 : without (lt b :: t) 0 = t := by simp [without]
    rw [w0] at hw
    obtain ⟨u, v, e1, e2, e3⟩ := firstAt_split hi
    have w1 : without s i = u ++ v := by rw [e1, e2, Nat.zero_add, without_split]
    have lw := letters_without ls i
    rw [w1] at hw lw
    rw [e1]
    refine (htsG_front hs fun a ha => (e3 a ha).2).trans ?_
    rw [htsG_cons, htsG_cons, nextH_congr hL]
    exact htsG_eqv hs lw lt2 (hL.append_right _) hw

theorem htsF_eqv (hs : ∀ a b, fr a b = fr b a) {n : Nat} {s t : List UInt8} (ls : letters n s) (lt' : letters n t) (h : eqv fr n s t) : (htsF fr s).Perm (htsF fr t) :=
  htsG_eqv hs ls lt' (List.Perm.refl []) h

theorem maxH_perm {L L' : List (UInt8 × Nat)} (h : L.Perm L') : maxH L = maxH L' := by
  have key : ∀ {L L' : List (UInt8 × Nat)}, L.Perm L' → maxH L ≤ maxH L' := by
    intro L L' h
    have : ∀ M : List (UInt8 × Nat), (∀ p ∈ M, p.2 ≤ maxH L') → maxH M ≤ maxH L' := by
      intro M
      induction M using snocInd with
      | nil => intro _; simp [maxH]
      | snoc M q ih =>
        intro hM
        rw [maxH_snoc]
        have := ih fun p hp => hM p (by simp [hp])
        have := hM q (by simp)
        omega
    exact this L fun p hp => le_maxH (h.mem_iff.1 hp)
  exact Nat.le_antisymm (key h) (key h.symm)

theorem grp_perm {L L' : List (UInt8 × Nat)} (h : L.Perm L') (n : Nat) : (grp L n).Perm (grp L' n) := (h.filter _).map _

theorem srt_perm_eq {g g' : List UInt8} (hg : letters 6 g) (hg' : letters 6 g') (h : g.Perm g') : srt g = srt g' :=
  sorted_unique (((srt_perm hg).trans h).trans (srt_perm hg').symm) (srt_sorted g) (srt_sorted g')

theorem steps_eqv (hs : ∀ a b, fr a b = fr b a) {s t : List UInt8} (ls : letters 6 s) (lt' : letters 6 t) (h : eqv fr 6 s t) : (gsOf (htsF fr s)).map srt = (gsOf (htsF fr t)).map srt := by
  have hp := htsF_eqv hs ls lt' h
  unfold gsOf
  rw [maxH_perm hp, List.map_map, List.map_map]
  refine List.map_congr_left fun j _ => ?_
  exact srt_perm_eq (grp_letters ls _) (grp_letters lt' _) (grp_perm hp _)

/-! ### One after the other -/

theorem filter_le_succ {M : List (UInt8 × Nat)} (h : M.Pairwise fun p q => p.2 < q.2) (N : Nat) : M.filter (fun p => decide (p.2 ≤ N + 1)) = M.filter (fun p => decide (p.2 ≤ N)) ++ M.filter (fun p => decide (p.2 = N + 1)) := by
  induction M with
  | nil => rfl
  | cons p M ih =>
    obtain ⟨h1, h2⟩ := List.pairwise_cons.1 h
    have ih := ih h2
    rcases Nat.lt_trichotomy p.2 (N + 1) with hp | hp | hp
    · rw [List.filter_cons_of_pos (by simp; omega), List.filter_cons_of_pos (by simp; omega), List.filter_cons_of_neg (by simp; omega), ih, List.cons_append]
    · have none : M.filter (fun p => decide (p.2 ≤ N)) = [] := by
        rw [List.filter_eq_nil_iff]
        intro q hq
        have := h1 q hq
        simp
        omega
      rw [none, List.nil_append] at ih
      rw [List.filter_cons_of_pos (by simp; omega), List.filter_cons_of_neg (by simp; omega), List.filter_cons_of_pos (by simp; omega), ih, none, List.nil_append]
    · have none : ∀ f : UInt8 × Nat → Bool, (∀ q, f q = true → q.2 ≤ N + 1) → (p :: M).filter f = [] := by
        intro f hf
        rw [List.filter_eq_nil_iff]
        intro q hq hfq
        have := hf q hfq
        rcases List.mem_cons.1 hq with rfl | hq
        · omega
        · have := h1 q hq; omega
      rw [none _ (fun q hq => by simpa using hq), none _ (fun q hq => by simp at hq; omega), none _ (fun q hq => by simp at hq; omega)]
      rfl

theorem flat_levels {M : List (UInt8 × Nat)} (h : M.Pairwise fun p q => p.2 < q.2) : ∀ N, ((List.range N).flatMap fun j => M.filter fun p => decide (p.2 = j + 1)) = M.filter fun p => decide (1 ≤ p.2 ∧ p.2 ≤ N)
  | 0 => by
    symm
    rw [List.range_zero, List.flatMap_nil, List.filter_eq_nil_iff]
    intro p _
    simp
    omega
  | N + 1 => by
    rw [List.range_succ, List.flatMap_append, flat_levels h N]
    simp only [List.flatMap_cons, List.flatMap_nil, List.append_nil]
    have e : ∀ n, (M.filter fun p => decide (1 ≤ p.2 ∧ p.2 ≤ n)) = (M.filter fun p => decide (1 ≤ p.2)).filter fun p => decide (p.2 ≤ n) := by
      intro n
      rw [List.filter_filter]
      congr 1
      funext p
      by_cases h1 : 1 ≤ p.2 <;> by_cases h2 : p.2 ≤ n <;> simp [h1, h2]
    have hp := h.filter (fun p => decide (1 ≤ p.2))
    rw [e, e, filter_le_succ hp N]
    congr 1
    rw [List.filter_filter]
    congr 1
    funext p
    by_cases h1 : p.2 = N + 1 <;> simp [h1]

/-- Letters whose order counts are in steps that rise. -/
theorem hts_rise (hself : ∀ a, a < 6 → fr (lt a) (lt a) = false) (hs : ∀ a b, fr a b = fr b a) {a d : Nat} (ha : a < 6) (hd : d < 6) (had : dep fr (lt a) (lt d)) (s : List UInt8) :
    ((htsF fr s).filter fun p => decide (p.1 = lt a) || decide (p.1 = lt d)).Pairwise fun p q => p.2 < q.2 := by
  induction s using snocInd with
  | nil => simp [htsF]
  | snoc s c ih =>
    rw [htsF_snoc, List.filter_append, List.pairwise_append]
    refine ⟨ih, ?_, ?_⟩
    · exact (List.pairwise_singleton _ _).filter _
    · intro p hp q hq
      obtain ⟨hp1, hp2⟩ := List.mem_filter.1 hp
      obtain ⟨hq1, hq2⟩ := List.mem_filter.1 hq
      rw [List.mem_singleton] at hq1
      subst hq1
      have hf : fr p.1 c = false := by
        simp only [Bool.or_eq_true, decide_eq_true_eq] at hp2 hq2
        have had' : lt a = lt d ∨ fr (lt a) (lt d) = false := had
        rcases hp2 with h1 | h1 <;> rcases hq2 with h2 | h2 <;> rw [h1, h2]
        · exact hself a ha
        · rcases had' with h3 | h3
          · rw [h3]; exact hself d hd
          · exact h3
        · rcases had' with h3 | h3
          · rw [h3]; exact hself d hd
          · rw [hs]; exact h3
        · exact hself d hd
      have := nextH_ge fr hp1 hf
      show p.2 < nextH fr (htsF fr s) c
      omega

theorem only_map (a d : UInt8) (L : List (UInt8 × Nat)) : only a d (L.map Prod.fst) = (L.filter fun p => decide (p.1 = a) || decide (p.1 = d)).map Prod.fst := by
  unfold only
  rw [List.filter_map]
  rfl

theorem perm_short {l m : List UInt8} (h : l.Perm m) (hl : l.length ≤ 1) : l = m := by
  match l, hl with
  | [], _ => exact (List.Perm.nil_eq h)
  | [x], _ => exact (List.perm_singleton.1 h.symm).symm

theorem steps_flat (hself : ∀ a, a < 6 → fr (lt a) (lt a) = false) (hs : ∀ a b, fr a b = fr b a) {s : List UInt8} (ls : letters 6 s) : eqv fr 6 ((gsOf (htsF fr s)).map srt).flatten s := by
  intro a d ha hd had
  have hM := hts_rise hself hs ha hd had s
  have e1 : only (lt a) (lt d) s = ((htsF fr s).filter fun p => decide (p.1 = lt a) || decide (p.1 = lt d)).map Prod.fst := by
    rw [← only_map, htsF_fst]
  have hlv := flat_levels hM (maxH (htsF fr s))
  have hall : (((htsF fr s).filter fun p => decide (p.1 = lt a) || decide (p.1 = lt d)).filter fun p => decide (1 ≤ p.2 ∧ p.2 ≤ maxH (htsF fr s))) = (htsF fr s).filter fun p => decide (p.1 = lt a) || decide (p.1 = lt d) := by
    rw [List.filter_eq_self]
    intro p hp
    have hp1 := (List.mem_filter.1 hp).1
    have := (htsF_le fr s p hp1).1
    have := le_maxH hp1
    simp
    omega
  rw [hall] at hlv
  rw [e1, ← hlv, List.map_flatMap]
  unfold gsOf only
  rw [List.filter_flatten, List.map_map, List.map_map, List.flatMap_def]
  congr 1
  refine List.map_congr_left fun j _ => ?_
  simp only [Function.comp]
  -- one step: at most one of the two letters
  have hg := grp_letters (fr := fr) ls (j + 1)
  have hfree := grp_free (fr := fr) (s := s) (j + 1)
  have hperm : ((srt (grp (htsF fr s) (j + 1))).filter fun c => decide (c = lt a) || decide (c = lt d)).Perm ((grp (htsF fr s) (j + 1)).filter fun c => decide (c = lt a) || decide (c = lt d)) := (srt_perm hg).filter _
  have hshort : ((grp (htsF fr s) (j + 1)).filter fun c => decide (c = lt a) || decide (c = lt d)).length ≤ 1 := by
    apply Classical.byContradiction
    intro hh
    match hfl : (grp (htsF fr s) (j + 1)).filter fun c => decide (c = lt a) || decide (c = lt d) with
    | [] => rw [hfl] at hh; simp at hh
    | [x] => rw [hfl] at hh; simp at hh
    | x :: y :: r =>
      have hsub : (x :: y :: r).Sublist (grp (htsF fr s) (j + 1)) := hfl ▸ List.filter_sublist
      have hp := hfree.sublist hsub
      have hx : x ∈ (grp (htsF fr s) (j + 1)).filter fun c => decide (c = lt a) || decide (c = lt d) := by rw [hfl]; simp
      have hy : y ∈ (grp (htsF fr s) (j + 1)).filter fun c => decide (c = lt a) || decide (c = lt d) := by rw [hfl]; simp
      have h1 := (List.mem_filter.1 hx).2
      have h2 := (List.mem_filter.1 hy).2
      simp only [Bool.or_eq_true, decide_eq_true_eq] at h1 h2
      have hfr := (List.pairwise_cons.1 hp).1 y (by simp)
      have had' : lt a = lt d ∨ fr (lt a) (lt d) = false := had
      have : fr x y = false := by
        rcases h1 with h1 | h1 <;> rcases h2 with h2 | h2 <;> rw [h1, h2]
        · exact hself a ha
        · rcases had' with h3 | h3
          · rw [h3]; exact hself d hd
          · exact h3
        · rcases had' with h3 | h3
          · rw [h3]; exact hself d hd
          · rw [hs]; exact h3
        · exact hself d hd
      rw [this] at hfr
      cases hfr
  rw [perm_short hperm (by rw [hperm.length_eq]; exact hshort)]
  unfold grp
  rw [List.filter_map, List.filter_filter, List.filter_filter]
  congr 2
  funext p
  simp only [Function.comp]
  rw [Bool.and_comm]

/-! ### The least -/

theorem least_le {n : Nat} : ∀ (f : Nat) (s : List UInt8), n ≤ 100 → letters n s → s.length = f → leastF fr n f s = s ∨ Op.bytesLess (leastF fr n f s) s = true
  | 0, s, _, _, hf => by
    have : s = [] := List.length_eq_zero_iff.1 hf
    subst this
    exact .inl rfl
  | f + 1, s, hn, ls, hf => by
    match s, hf with
    | c :: s, hf =>
      obtain ⟨⟨b, hb, rfl⟩, ls'⟩ := letters_cons ls
      obtain ⟨a, i, h1, h2, h3, h4⟩ := pickFrom_some (fr := fr) (s := lt b :: s) (t := n) (a := 0) (b := b) (by omega) (by omega) ⟨0, by simp [firstAt]⟩
      simp only [leastF, h1]
      by_cases hab : a = b
      · subst hab
        have hi : i = 0 := by
          have : firstAt fr (lt a) (lt a :: s) 0 = some 0 := by simp [firstAt]
          rw [this] at h4
          exact (Option.some.inj h4).symm
        subst hi
        have w0 : without (lt a :: s) 0 = s := by simp [without]
        rw [w0]
        rcases least_le f s hn ls' (by simpa using hf) with h | h
        · exact .inl (by rw [h])
        · right
          simp [Op.bytesLess, h]
      · right
        have : lt a < lt b := by
          rw [UInt8.lt_iff_toNat_lt, lt_toNat (by omega), lt_toNat (by omega)]
          omega
        simp [Op.bytesLess, this]
end
end Go.Sim
