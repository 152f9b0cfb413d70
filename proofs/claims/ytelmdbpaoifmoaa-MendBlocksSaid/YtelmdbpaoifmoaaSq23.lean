/-
  More pairs: fewer orders, and none that costs less. Pairs turned: orders turned.
-/
import Derived.Test.YtelmdbpaoifmoaaMgs
namespace Go.Sim

theorem rdy_sub {bs cs : List Nat} {n : Nat} (h : ∀ i, i < n → ∀ j, (bs.getD i 0).testBit j = true → (cs.getD i 0).testBit j = true) {s i : Nat} (hi : i < n) (hr : rdyS cs s i = true) : rdyS bs s i = true := by
  unfold rdyS at hr ⊢
  rw [Bool.and_eq_true] at hr ⊢
  refine ⟨hr.1, ?_⟩
  rw [subB_iff] at hr ⊢
  exact fun j hj => hr.2 j (h i hi j hj)

theorem okO_sub {bs cs : List Nat} {n : Nat} (h : ∀ i, i < n → ∀ j, (bs.getD i 0).testBit j = true → (cs.getD i 0).testBit j = true) : ∀ {l : List Nat} {s : Nat}, okO cs n s l = true → okO bs n s l = true
  | [], _, _ => rfl
  | i :: l, s, hok => by
    simp only [okO, Bool.and_eq_true, decide_eq_true_eq] at hok ⊢
    exact ⟨⟨hok.1.1, rdy_sub h hok.1.1 hok.1.2⟩, okO_sub h hok.2⟩

theorem lefts_pos {bs : List Nat} {js : List (Int × Int)} (hj : smallF js) {n : Nat} (hn : n ≤ 10) (hu : acyc bs n) : 1 ≤ lefts bs n 0 := by
  obtain ⟨l, a, b, _⟩ := minS_ex hj hn hu (fullS n) 0 (Nat.pow_pos (by decide)) (by omega)
  have := (ords_mem bs n l).2 ⟨a, b⟩
  have : 0 < (ords bs n).length := List.length_pos_of_mem this
  rw [ords_len]
  omega

/-- More pairs. -/
theorem more_pairs {bs cs : List Nat} {js : List (Int × Int)} (hj : smallF js) {n : Nat} (hn : n ≤ 10) (hu : acyc bs n) (hv : acyc cs n) (h : ∀ i, i < n → ∀ j, (bs.getD i 0).testBit j = true → (cs.getD i 0).testBit j = true) :
    minS bs js n 0 ≤ minS cs js n 0 ∧ lefts cs n 0 ≤ lefts bs n 0 ∧ 1 ≤ lefts cs n 0 := by
  have hpos : 0 < 2 ^ n := Nat.pow_pos (by decide)
  refine ⟨?_, ?_, lefts_pos hj hn hv⟩
  · obtain ⟨l, a, b, c⟩ := minS_ex hj hn hv (fullS n) 0 hpos (by omega)
    have := minS_le hj hn hu hpos (okO_sub h a) b
    omega
  · rw [ords_len, ords_len]
    have := nodup_sub_len (ords_nodup cs n) (B := ords bs n) fun l hl => by
      obtain ⟨a, b⟩ := (ords_mem cs n l).1 hl
      exact (ords_mem bs n l).2 ⟨okO_sub h a, b⟩
    omega

/-! ### Orders, seen from both ends -/

theorem stO_mem : ∀ (l : List Nat) (s j : Nat), (stO s l).testBit j = (s.testBit j || decide (j ∈ l))
  | [], s, j => by simp [stO]
  | i :: l, s, j => by
    simp only [stO, stO_mem l, testBit_or_pow]
    by_cases e : i = j
    · subst e; simp
    · have e' : ¬ j = i := fun h => e h.symm
      simp [e, e']

/-- What an order is. -/
structure IsOrd (bs : List Nat) (n : Nat) (l : List Nat) : Prop where
  lt : ∀ i ∈ l, i < n
  nodup : l.Nodup
  all : ∀ i, i < n → i ∈ l
  before : l.Pairwise fun a b => (bs.getD a 0).testBit b = false
  self : ∀ i, i < n → ∀ j, (bs.getD i 0).testBit j = true → j < n ∧ j ≠ i

theorem isOrd_of {bs : List Nat} {n : Nat} (hb : ∀ b ∈ bs, b < 2 ^ n) {l : List Nat} (h : okO bs n 0 l = true) (hf : stO 0 l = fullS n) : IsOrd bs n l := by
  have key : ∀ {l : List Nat} {s : Nat}, okO bs n s l = true → (l.Nodup ∧ ∀ i ∈ l, s.testBit i = false) ∧ (l.Pairwise fun a b => (bs.getD a 0).testBit b = false) ∧ ∀ i ∈ l, ∀ j, (bs.getD i 0).testBit j = true → j ≠ i ∧ (s.testBit j = true ∨ j ∈ l) := by
    intro l
    induction l with
    | nil => intro s _; simp
    | cons i l ih =>
      intro s h
      simp only [okO, Bool.and_eq_true, decide_eq_true_eq] at h
      obtain ⟨⟨a1, a2⟩, a3, a4⟩ := ih h.2
      have hbit := rdyS_bit h.1.2
      have hsub : subB (bs.getD i 0) s = true := by
        have := h.1.2
        unfold rdyS at this
        rw [Bool.and_eq_true] at this
        exact this.2
      rw [subB_iff] at hsub
      have old : ∀ j ∈ l, s.testBit j = false ∧ j ≠ i := by
        intro j hj
        have := a2 j hj
        rw [testBit_or_pow, Bool.or_eq_false_iff] at this
        exact ⟨this.1, fun e => by subst e; simp at this⟩
      refine ⟨⟨?_, ?_⟩, ?_, ?_⟩
      · exact List.nodup_cons.2 ⟨fun hm => (old i hm).2 rfl, a1⟩
      · intro j hj
        rcases List.mem_cons.1 hj with rfl | hj
        · exact hbit
        · exact (old j hj).1
      · refine List.pairwise_cons.2 ⟨fun j hj => ?_, a3⟩
        cases hc : (bs.getD i 0).testBit j with
        | false => rfl
        | true => have := hsub j hc; rw [(old j hj).1] at this; cases this
      · intro k hk j hj
        rcases List.mem_cons.1 hk with rfl | hk
        · have := hsub j hj
          exact ⟨fun e => (by subst e; rw [hbit] at this; cases this), .inl this⟩
        · obtain ⟨b1, b2⟩ := a4 k hk j hj
          refine ⟨b1, ?_⟩
          rcases b2 with b2 | b2
          · rw [testBit_or_pow, Bool.or_eq_true] at b2
            rcases b2 with b2 | b2
            · exact .inl b2
            · have : i = j := of_decide_eq_true b2
              subst this; exact .inr (by simp)
          · exact .inr (by simp [b2])
  obtain ⟨⟨a1, _⟩, a3, a4⟩ := key h
  have hall : ∀ i, i < n → i ∈ l := by
    intro i hi
    have := stO_mem l 0 i
    rw [hf, fullS_bit, decide_eq_true hi] at this
    simpa using this
  refine ⟨okO_lt h, a1, hall, a3, fun i hi j hj => ?_⟩
  obtain ⟨b1, b2⟩ := a4 i (hall i hi) j hj
  rcases b2 with b2 | b2
  · simp at b2
  · exact ⟨okO_lt h j b2, b1⟩

theorem okO_of {bs : List Nat} {n : Nat} : ∀ {l : List Nat} {S : Nat}, (∀ i ∈ l, i < n ∧ S.testBit i = false) → l.Nodup → l.Pairwise (fun a b => (bs.getD a 0).testBit b = false) → (∀ i ∈ l, ∀ j, (bs.getD i 0).testBit j = true → j ≠ i ∧ (S.testBit j = true ∨ j ∈ l)) → okO bs n S l = true
  | [], _, _, _, _, _ => rfl
  | i :: l, S, h1, h2, h3, h4 => by
    have hn := List.nodup_cons.1 h2
    have hp := List.pairwise_cons.1 h3
    have hi := h1 i (by simp)
    simp only [okO, Bool.and_eq_true, decide_eq_true_eq]
    refine ⟨⟨hi.1, ?_⟩, ?_⟩
    · unfold rdyS
      rw [hi.2, Bool.not_false, Bool.true_and, subB_iff]
      intro j hj
      obtain ⟨b1, b2⟩ := h4 i (by simp) j hj
      rcases b2 with b2 | b2
      · exact b2
      · rcases List.mem_cons.1 b2 with b2 | b2
        · exact absurd b2 b1
        · rw [hp.1 j b2] at hj; cases hj
    · refine okO_of (fun j hj => ?_) hn.2 hp.2 fun k hk j hj => ?_
      · have := h1 j (by simp [hj])
        refine ⟨this.1, ?_⟩
        rw [testBit_or_pow, this.2, Bool.false_or]
        exact decide_eq_false fun e => hn.1 (e ▸ hj)
      · obtain ⟨b1, b2⟩ := h4 k (by simp [hk]) j hj
        refine ⟨b1, ?_⟩
        rcases b2 with b2 | b2
        · exact .inl (by rw [testBit_or_pow, b2]; rfl)
        · rcases List.mem_cons.1 b2 with b2 | b2
          · exact .inl (by rw [testBit_or_pow, b2]; simp)
          · exact .inr b2

theorem IsOrd.ok {bs : List Nat} {n : Nat} {l : List Nat} (h : IsOrd bs n l) : okO bs n 0 l = true ∧ stO 0 l = fullS n := by
  refine ⟨okO_of (fun i hi => ⟨h.lt i hi, by simp⟩) h.nodup h.before fun i hi j hj => ?_, ?_⟩
  · obtain ⟨a, b⟩ := h.self i (h.lt i hi) j hj
    exact ⟨b, .inr (h.all j a)⟩
  · apply Nat.eq_of_testBit_eq
    intro j
    rw [stO_mem, fullS_bit]
    simp only [Nat.zero_testBit, Bool.false_or]
    rw [decide_eq_decide]
    exact ⟨fun hm => h.lt j hm, fun hl => h.all j hl⟩

/-- Pairs turned around. -/
def Turned (bs cs : List Nat) (n : Nat) : Prop := ∀ i j, i < n → j < n → (bs.getD i 0).testBit j = (cs.getD j 0).testBit i

theorem IsOrd.turn {bs cs : List Nat} {n : Nat} (hc : ∀ b ∈ cs, b < 2 ^ n) (t : Turned bs cs n) {l : List Nat} (h : IsOrd bs n l) : IsOrd cs n l.reverse := by
  refine ⟨fun i hi => h.lt i (List.mem_reverse.1 hi), List.pairwise_reverse.2 (h.nodup.imp fun hne e => hne e.symm), fun i hi => List.mem_reverse.2 (h.all i hi), ?_, ?_⟩
  · rw [List.pairwise_reverse]
    have hb := h.before
    have key : ∀ {l : List Nat}, (∀ i ∈ l, i < n) → l.Pairwise (fun a b => (bs.getD a 0).testBit b = false) → l.Pairwise fun a b => (cs.getD b 0).testBit a = false := by
      intro l
      induction l with
      | nil => intro _ _; exact .nil
      | cons a l ih =>
        intro hl hp
        have hp := List.pairwise_cons.1 hp
        refine List.pairwise_cons.2 ⟨fun b hb => ?_, ih (fun i hi => hl i (by simp [hi])) hp.2⟩
        rw [← t a b (hl a (by simp)) (hl b (by simp [hb]))]
        exact hp.1 b hb
    exact key h.lt hb
  · intro i hi j hj
    have hjn : j < n := by
      refine bit_lt ?_ hj
      by_cases hl : i < cs.length
      · have e : cs.getD i 0 = cs[i] := by simp [List.getD_eq_getElem?_getD, hl]
        rw [e]; exact hc _ (List.getElem_mem hl)
      · have e : cs.getD i 0 = 0 := by simp only [List.getD_eq_getElem?_getD]; rw [List.getElem?_eq_none (by omega)]; rfl
        rw [e]; exact Nat.pow_pos (by decide)
    refine ⟨hjn, fun e => ?_⟩
    rw [← t j i hjn hi] at hj
    exact (h.self j hjn i hj).2 e.symm

theorem Turned.symm {bs cs : List Nat} {n : Nat} (t : Turned bs cs n) : Turned cs bs n := fun i j hi hj => (t j i hj hi).symm

theorem rev_inj {α : Type} (a b : List α) (h : a.reverse = b.reverse) : a = b := by
  have := congrArg List.reverse h
  simpa using this

theorem turn_le {bs cs : List Nat} {n : Nat} (hb : ∀ b ∈ bs, b < 2 ^ n) (hc : ∀ b ∈ cs, b < 2 ^ n) (t : Turned bs cs n) : lefts bs n 0 ≤ lefts cs n 0 := by
  rw [ords_len, ords_len]
  have := nodup_sub_len (nodup_map rev_inj (ords_nodup bs n)) (B := ords cs n) fun l hl => by
    obtain ⟨m, hm, rfl⟩ := List.mem_map.1 hl
    obtain ⟨a, b⟩ := (ords_mem bs n m).1 hm
    exact (ords_mem cs n _).2 ((isOrd_of hb a b).turn hc t).ok
  rw [List.length_map] at this
  omega

/-- As many orders. -/
theorem turn_lefts {bs cs : List Nat} {n : Nat} (hb : ∀ b ∈ bs, b < 2 ^ n) (hc : ∀ b ∈ cs, b < 2 ^ n) (t : Turned bs cs n) : lefts bs n 0 = lefts cs n 0 :=
  Int.le_antisymm (turn_le hb hc t) (turn_le hc hb t.symm)

theorem cost_now (js : List (Int × Int)) : ∀ (l : List Nat) (now : Int), costF js now l = now * sumL l (weiJ js) + costF js 0 l
  | [], now => by simp [costF, sumL]
  | i :: l, now => by
    simp only [costF, sumL]
    rw [cost_now js l (now + lenJ js i), cost_now js l (0 + lenJ js i)]
    simp only [Int.mul_add, Int.add_mul, Int.zero_add, Int.mul_comm (weiJ js i)]
    omega

theorem end_now (js : List (Int × Int)) : ∀ (l : List Nat) (now : Int), endF js now l = now + sumL l (lenJ js)
  | [], now => by simp [endF, sumL]
  | i :: l, now => by
    simp only [endF, sumL, end_now js l]; omega

theorem sumL_rev (f : Nat → Int) : ∀ l : List Nat, sumL l.reverse f = sumL l f
  | [] => rfl
  | i :: l => by simp only [List.reverse_cons, sumL_append, sumL_rev f l, sumL]; omega

/-- Lengths and weights exchanged, the order turned around: the same cost. -/
theorem cost_turn {js ks : List (Int × Int)} {n : Nat} (h : ∀ i, i < n → lenJ ks i = weiJ js i ∧ weiJ ks i = lenJ js i) : ∀ l : List Nat, (∀ i ∈ l, i < n) → costF ks 0 l.reverse = costF js 0 l
  | [], _ => rfl
  | i :: l, hl => by
    have ih := cost_turn h l fun j hj => hl j (by simp [hj])
    obtain ⟨h1, h2⟩ := h i (hl i (by simp))
    rw [List.reverse_cons, costF_append, ih, end_now, sumL_rev]
    simp only [costF]
    rw [cost_now js l (0 + lenJ js i), h1, h2]
    have e : sumL l (lenJ ks) = sumL l (weiJ js) := by
      have key : ∀ l : List Nat, (∀ i ∈ l, i < n) → sumL l (lenJ ks) = sumL l (weiJ js) := by
        intro l
        induction l with
        | nil => intro _; rfl
        | cons j l ih =>
          intro hl
          simp only [sumL, (h j (hl j (by simp))).1, ih fun k hk => hl k (by simp [hk])]
      exact key l fun j hj => hl j (by simp [hj])
    rw [e]
    simp only [Int.mul_add, Int.zero_add, Int.mul_comm (weiJ js i)]
    omega

theorem turn_min_le {bs cs : List Nat} {js ks : List (Int × Int)} (hj : smallF js) (hk : smallF ks) {n : Nat} (hn : n ≤ 10) (hb : ∀ b ∈ bs, b < 2 ^ n) (hc : ∀ b ∈ cs, b < 2 ^ n) (t : Turned bs cs n) (hu : acyc bs n) (hv : acyc cs n)
    (h : ∀ i, i < n → lenJ ks i = weiJ js i ∧ weiJ ks i = lenJ js i) : minS cs ks n 0 ≤ minS bs js n 0 := by
  have hpos : 0 < 2 ^ n := Nat.pow_pos (by decide)
  obtain ⟨l, a, b, c⟩ := minS_ex hj hn hu (fullS n) 0 hpos (by omega)
  have io := isOrd_of hb a b
  have it := (io.turn hc t).ok
  have h1 := minS_le hk hn hv hpos it.1 it.2
  rw [now_zero] at h1 c
  rw [cost_turn h l io.lt] at h1
  omega

/-- The same least cost. -/
theorem turn_min {bs cs : List Nat} {js ks : List (Int × Int)} (hj : smallF js) (hk : smallF ks) {n : Nat} (hn : n ≤ 10) (hb : ∀ b ∈ bs, b < 2 ^ n) (hc : ∀ b ∈ cs, b < 2 ^ n) (t : Turned bs cs n) (hu : acyc bs n) (hv : acyc cs n)
    (h : ∀ i, i < n → lenJ ks i = weiJ js i ∧ weiJ ks i = lenJ js i) : minS bs js n 0 = minS cs ks n 0 :=
  Int.le_antisymm (turn_min_le hk hj hn hc hb t.symm hv hu fun i hi => ⟨(h i hi).2.symm, (h i hi).1.symm⟩) (turn_min_le hj hk hn hb hc t hu hv h)

end Go.Sim
