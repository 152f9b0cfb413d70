/-
  Sets of jobs, and what is ready, as the program holds them.
-/
import Derived.Test.YtelmdbpaoifmoaaMgd
import Derived.Test.YtelmdbpaoifmoaaShA
import Derived.Test.YtelmdbpaoifmoaaMgs
import Derived.Test.YtelmdbpaoifmoaaShC
import Derived.Test.YtelmdbpaoifmoaaShB
namespace Go.Proofs.Ytelmdbpaoifmoaa
open Go.Sim

abbrev U (s : Nat) : Value := .int .u16 (s : Int)
theorem skU : SK .u16 := .inl rfl
theorem skI : SK .i64 := .inr rfl

/-- A plan: jobs, and of each one those that must be done before it. -/
def PL (h : Heap) (p : Value) (js : List (Int × Int)) (bs : List Nat) : Prop := ∃ i vj vb, p = pt i 0 ∧ objCells h i = some [vj, vb] ∧ PS h vj js ∧ NS h vb .u16 (bs.map fun b : Nat => (b : Int))

theorem PL.mono {h h' : Heap} {p : Value} {js : List (Int × Int)} {bs : List Nat} (x : EX h h') (q : PL h p js bs) : PL h' p js bs :=
  let ⟨i, vj, vb, a, b, c, d⟩ := q; ⟨i, vj, vb, a, x.cells b, c.mono x, d.mono x⟩

def allS (n : Nat) : Nat := 2 ^ n - 1

theorem C37 {s i : Nat} {h : Heap} {K : Value → Heap → Prop} (hi : i < 16) (hs : s < 1024) (hk : K (B (s.testBit i)) h) : CallP Try.prog 37 [U s, I i] h K := by
  refine f37 ?_
  have hd : s / 2 ^ i < 1024 := Nat.lt_of_le_of_lt (Nat.div_le_self _ _) hs
  have ha := andK skU hd (show 1 < 1024 by decide)
  have ha' : iBin .and (.int .u16 ((s / 2 ^ i : Nat) : Int)) (.int .u16 1) = some (.int .u16 ((s / 2 ^ i &&& 1 : Nat) : Int)) := ha
  simp only [T37, shrK skU hi, OP_some, ha', bin_eql]
  have e : decide (((s / 2 ^ i &&& 1 : Nat) : Int) = 1) = s.testBit i := by
    rw [Nat.testBit_eq_decide_div_mod_eq, bit_and]
    by_cases h1 : s / 2 ^ i % 2 = 1
    · rw [decide_eq_true h1, decide_eq_true (by omega)]
    · rw [decide_eq_false h1, decide_eq_false (by omega)]
  rw [e]
  exact hk

theorem C24 {p : Value} {js : List (Int × Int)} {bs : List Nat} {h : Heap} {K : Value → Heap → Prop} (hp : PL h p js bs) (hl : js.length ≤ 10) (hk : K (U (allS js.length)) h) : CallP Try.prog 24 [p] h K := by
  obtain ⟨i, vj, vb, rfl, hc, hj, hb⟩ := hp
  refine f24 ?_
  have ld : iLoad false 1 h (pt i 0) = some vj := by simp [iLoad, hc, iPart]
  have e1 : (1 : Nat) ≤ 2 ^ js.length := Nat.pow_pos (by decide)
  have e2 : (2 : Nat) ^ js.length ≤ 2 ^ 10 := Nat.pow_le_pow_right (by decide) hl
  simp only [T24, nilck_pt, OP_some, fadr_pt, Nat.add_zero, ld, hj.len, shlK skU (show js.length < 11 by omega), bin_sub]
  rw [skU.wrap (by omega) (by omega)]
  have : ((2 ^ js.length : Nat) : Int) - 1 = ((allS js.length : Nat) : Int) := by unfold allS; omega
  rw [this]
  exact hk

/-- A job can be done after those of a set. -/
def rdy (bs : List Nat) (s i : Nat) : Bool := !s.testBit i && subB (bs.getD i 0) s

theorem NS.getU {h : Heap} {v : Value} {bs : List Nat} (p : NS h v .u16 (bs.map fun b : Nat => (b : Int))) {i : Nat} (hi : i < bs.length) : ∃ b o, iAdrSl 1 v (I i) = some (pt b o) ∧ iLoad false 1 h (pt b o) = some (U (bs.getD i 0)) := by
  obtain ⟨b, o, g1, g2⟩ := p.get i (by simpa using hi)
  refine ⟨b, o, g1, ?_⟩
  rw [g2]
  simp [List.getD_eq_getElem?_getD, hi]

theorem C26 {p : Value} {js : List (Int × Int)} {bs : List Nat} {s i : Nat} {h : Heap} {K : Value → Heap → Prop} (hp : PL h p js bs) (hi : i < bs.length) (hl : bs.length ≤ 10) (hs : s < 1024) (hb : ∀ b ∈ bs, b < 1024) (hk : K (B (rdy bs s i)) h) :
    CallP Try.prog 26 [p, U s, I i] h K := by
  obtain ⟨a, vj, vb, rfl, hc, hj, hbs⟩ := hp
  refine f26 (C37 (by omega) hs ?_)
  have ld : iLoad false 1 h (pt a 1) = some vb := by simp [iLoad, hc, iPart]
  unfold rdy at hk
  simp only [un_not, OP_some]
  cases ht : s.testBit i with
  | true =>
    rw [ht] at hk
    simp only [Bool.not_true, q26z4, GdP_ft, q26z6, iPick_f, OP_some]
    exact hk
  | false =>
    rw [ht] at hk
    obtain ⟨b, o, g1, g2⟩ := NS.getU hbs hi
    have hbi : bs.getD i 0 < 1024 := by
      have : bs.getD i 0 = bs[i] := by simp [List.getD_eq_getElem?_getD, hi]
      rw [this]; exact hb _ (List.getElem_mem hi)
    obtain ⟨r, r1, r2⟩ := andNotK skU hbi hs
    simp only [Bool.not_false, q26z4, GdP_tt, nilck_pt, OP_some, fadr_pt, Nat.zero_add, ld, g1, g2, r1, bin_eql, q26z6, iPick_t]
    have e : decide ((r : Int) = 0) = subB (bs.getD i 0) s := by
      cases hq : subB (bs.getD i 0) s with
      | true => exact decide_eq_true (by have := r2.2 hq; omega)
      | false => exact decide_eq_false (by intro h0; have := r2.1 (by omega); rw [hq] at this; cases this)
    rw [e]
    simpa using hk

/-- The jobs of a set. -/
def listS (s : Nat) : Nat → List Nat
  | 0 => []
  | i + 1 => if s.testBit i = true then listS s i ++ [i] else listS s i

theorem listS_len (s : Nat) : ∀ n, (listS s n).length ≤ n
  | 0 => Nat.le_refl _
  | n + 1 => by have := listS_len s n; simp only [listS]; split <;> simp <;> omega

theorem listS_lt (s : Nat) : ∀ (n i : Nat), i ∈ listS s n → i < n ∧ s.testBit i = true
  | 0, i, h => by simp [listS] at h
  | n + 1, i, h => by
    simp only [listS] at h
    split at h
    · rename_i ht
      rcases List.mem_append.1 h with h | h
      · have := listS_lt s n i h; exact ⟨by omega, this.2⟩
      · have : i = n := by simpa using h
        subst this; exact ⟨by omega, ht⟩
    · have := listS_lt s n i h; exact ⟨by omega, this.2⟩

theorem C36 {s : Nat} {h : Heap} {K : Value → Heap → Prop} (hs : s < 1024) (hk : ∀ v h', EX h h' → NS h' v .i64 ((listS s 10).map fun i : Nat => (i : Int)) → K v h') : CallP Try.prog 36 [U s] h K := by
  refine f36 ?_
  unfold T36
  refine loopL (σ := Nat × Value × Heap) (fun p => [p.2.1, I p.1]) (fun p => p.2.2) (fun p => p.1 ≤ 10 ∧ EX h p.2.2 ∧ OwnS h.length p.2.2 3 p.2.1 ((listS s p.1).map fun i : Nat => I i)) (fun p => 10 - p.1)
    (0, .slice none 0 0, h) rfl rfl ⟨Nat.zero_le _, EX.refl _, .inl ⟨rfl, rfl⟩⟩ ?_
  rintro ⟨i, v, g⟩ ⟨hi, xg, hown⟩ L hL
  simp only at hi xg hown hL ⊢
  have hll := listS_len s i
  rw [q36z6]
  simp only [bin_lss, OP_some, IfP_dec]
  refine ⟨fun hlt => ?_, fun hge => ?_⟩
  · refine C37 (by omega) hs ?_
    refine IfP_of (fun ht => ?_) fun ht => ?_
    · refine app1 hown xg (by simp; omega) (by simp [maxLen]; omega) rfl rfl ?_
      intro v' g' xg' ho'
      simp only [q36z13, bin_add, OP_some, inc i (by omega), true_and]
      refine hL (i + 1, v', g') ⟨by show i + 1 ≤ 10; omega, xg', ?_⟩ (by show 10 - (i + 1) < 10 - i; omega)
      show OwnS h.length g' 3 v' ((listS s (i + 1)).map fun i : Nat => I i)
      simp only [listS, ht, if_true, List.map_append, List.map_cons, List.map_nil]
      exact ho'
    · simp only [q36z13, bin_add, OP_some, inc i (by omega), true_and]
      refine hL (i + 1, v, g) ⟨by show i + 1 ≤ 10; omega, xg, ?_⟩ (by show 10 - (i + 1) < 10 - i; omega)
      show OwnS h.length g 3 v ((listS s (i + 1)).map fun i : Nat => I i)
      simp only [listS, ht, Bool.false_eq_true, if_false]
      exact hown
  · have hie : i = 10 := by omega
    subst hie
    rw [q36z14]
    refine hk v g xg ?_
    rcases hown with ⟨h1, h2⟩ | ⟨a, _, h2, h3⟩
    · have : listS s 10 = [] := by simpa using h2
      rw [this, h1]
      exact NS.nil g .i64
    · rw [h2, List.length_map]
      have := NS.sl (h := g) (e := 3) (i := a) (k := .i64) (ns := (listS s 10).map fun i : Nat => (i : Int)) (.inr (by simp [objCells, h3])) (by simp [maxLen]; omega)
      rw [List.length_map] at this
      exact this

def sumJ (js : List (Int × Int)) (l : List Nat) : Int := sumL l fun i => (js.getD i (0, 0)).1

theorem sumL_take' {α : Type} (f : α → Int) (l : List α) {j : Nat} (hj : j < l.length) : sumL (l.take (j + 1)) f = sumL (l.take j) f + f l[j] := by
  rw [List.take_succ_eq_append_getElem hj, sumL_append]
  simp [sumL]

theorem PS.getD {h : Heap} {v : Value} {js : List (Int × Int)} (p : PS h v js) {i : Nat} (hi : i < js.length) : ∃ b o, iAdrSl 2 v (I i) = some (pt b o) ∧ iLoad false 1 h (pt b o) = some (I (js.getD i (0, 0)).1) ∧ iLoad false 1 h (pt b (o + 1)) = some (I (js.getD i (0, 0)).2) ∧
    iLoad true 2 h (pt b o) = some (.agg #[I (js.getD i (0, 0)).1, I (js.getD i (0, 0)).2]) := by
  obtain ⟨b, o, g1, g2, g3, g4⟩ := p.get i hi
  have e : js.getD i (0, 0) = js[i] := by simp [List.getD_eq_getElem?_getD, hi]
  rw [e]
  exact ⟨b, o, g1, g2, g3, g4⟩

/-- All lengths and weights are small. -/
def smallJ (js : List (Int × Int)) : Prop := ∀ j ∈ js, (1 ≤ j.1 ∧ j.1 ≤ 50) ∧ 0 ≤ j.2 ∧ j.2 ≤ 50

theorem smallJ.getD {js : List (Int × Int)} (h : smallJ js) {i : Nat} (hi : i < js.length) : (1 ≤ (js.getD i (0, 0)).1 ∧ (js.getD i (0, 0)).1 ≤ 50) ∧ 0 ≤ (js.getD i (0, 0)).2 ∧ (js.getD i (0, 0)).2 ≤ 50 := by
  have e : js.getD i (0, 0) = js[i] := by simp [List.getD_eq_getElem?_getD, hi]
  rw [e]; exact h _ (List.getElem_mem hi)

theorem sumJ_bound {js : List (Int × Int)} (h : smallJ js) : ∀ l : List Nat, (∀ i ∈ l, i < js.length) → 0 ≤ sumJ js l ∧ sumJ js l ≤ 50 * l.length
  | [], _ => by simp [sumJ, sumL]
  | i :: l, hl => by
    have ih := sumJ_bound h l fun x hx => hl x (by simp [hx])
    have := h.getD (hl i (by simp))
    unfold sumJ at ih ⊢
    simp only [sumL, List.length_cons]
    omega

theorem C25 {p : Value} {js : List (Int × Int)} {bs : List Nat} {s : Nat} {h : Heap} {K : Value → Heap → Prop} (hp : PL h p js bs) (hj : smallJ js) (hl : js.length ≤ 10) (hs : s < 2 ^ js.length) (hk : ∀ h', EX h h' → K (I (sumJ js (listS s 10))) h') : CallP Try.prog 25 [p, U s] h K := by
  have h1024 : (2 : Nat) ^ js.length ≤ 2 ^ 10 := Nat.pow_le_pow_right (by decide) hl
  refine f25 (C36 (by omega) ?_)
  intro v g xg hn
  obtain ⟨a, vj, vb, rfl, hc, hjs, hbs⟩ := hp.mono xg
  have hlt : ∀ i ∈ listS s 10, i < js.length := by
    intro i hi
    have h1 := (listS_lt s 10 i hi).2
    apply Classical.byContradiction
    intro hge
    have : s < 2 ^ i := Nat.lt_of_lt_of_le hs (Nat.pow_le_pow_right (by decide) (by omega))
    rw [Nat.testBit_lt_two_pow this] at h1
    cases h1
  have hll := listS_len s 10
  have lenN : iLenSl v = some (I (listS s 10).length) := by have := hn.len; rwa [List.length_map] at this
  simp only [lenN, OP_some]
  refine loopL (σ := Nat) (fun i => [I (sumJ js ((listS s 10).take i)), I i]) (fun _ => g) (fun i => i ≤ (listS s 10).length) (fun i => (listS s 10).length - i) 0 rfl rfl (Nat.zero_le _) ?_
  intro i hi L hL
  rw [q25z6]
  simp only [bin_lss, OP_some, IfP_dec]
  refine ⟨fun hlt2 => ?_, fun hge => ?_⟩
  · have hil : i < (listS s 10).length := by omega
    obtain ⟨b, o, g1, g2⟩ := hn.get i (by simpa using hil)
    have e : ((listS s 10).map fun i : Nat => (i : Int))[i]'(by simpa using hil) = ((listS s 10)[i] : Int) := by simp
    rw [e] at g2
    have hm := hlt _ (List.getElem_mem hil)
    obtain ⟨c, q, r1, r2, r3, r4⟩ := PS.getD hjs hm
    have ld : iLoad false 1 g (pt a 0) = some vj := by simp [iLoad, hc, iPart]
    have hst : sumJ js ((listS s 10).take (i + 1)) = sumJ js ((listS s 10).take i) + (js.getD (listS s 10)[i] (0, 0)).1 := by
      exact sumL_take' _ _ hil
    have hb1 := sumJ_bound hj ((listS s 10).take (i + 1)) fun x hx => hlt x (List.mem_of_mem_take hx)
    rw [List.length_take, hst] at hb1
    simp only [g1, g2, OP_some, nilck_pt, fadr_pt, Nat.add_zero, ld, r1, r2, bin_add, inc i (by omega)]
    rw [wrap64 (by omega) (by omega), ← hst]
    simp only [true_and]
    exact hL (i + 1) (by omega) (by omega)
  · have hie : i = (listS s 10).length := by omega
    subst hie
    rw [List.take_length, q25z12]
    exact hk g xg

end Go.Proofs.Ytelmdbpaoifmoaa

/-
  Jobs and pairs are read: whatever they are.
-/
namespace Go.Proofs.Ytelmdbpaoifmoaa
open Go.Sim

def jobB (j : Int × Int) : Bool := (decide (1 ≤ j.1) && decide (j.1 ≤ 50)) && (decide (0 ≤ j.2) && decide (j.2 ≤ 50))
def pairB (n : Nat) (p : Int × Int) : Bool := (decide (0 ≤ min p.1 p.2) && decide (max p.1 p.2 < n)) && !decide (p.1 = p.2)
/-- Jobs and pairs that are within their limits. -/
def formB (js ps : List (Int × Int)) : Bool := ((decide (1 ≤ js.length) && decide (js.length ≤ 10)) && decide (ps.length ≤ 40)) && (js.all jobB && ps.all (pairB js.length))

theorem rdy_eq (bs : List Nat) (s i : Nat) : rdy bs s i = rdyS bs s i := rfl
theorem full_eq (n : Nat) : allS n = fullS n := rfl

theorem formB_small {js ps : List (Int × Int)} (h : formB js ps = true) : (1 ≤ js.length ∧ js.length ≤ 10) ∧ ps.length ≤ 40 ∧ smallJ js := by
  simp only [formB, Bool.and_eq_true, decide_eq_true_eq] at h
  refine ⟨h.1.1, h.1.2, fun j hj => ?_⟩
  have := List.all_eq_true.1 h.2.1 j hj
  simp only [jobB, Bool.and_eq_true, decide_eq_true_eq] at this
  exact this

/-- What must be done before each job. -/
structure BS (ps : List (Int × Int)) (n : Nat) (bs : List Nat) : Prop where
  len : bs.length = n
  lt : ∀ b ∈ bs, b < 2 ^ n
  bit : ∀ i, i < n → ∀ j : Nat, (bs.getD i 0).testBit j = decide (((j : Int), (i : Int)) ∈ ps)

theorem BS.getD_lt {ps : List (Int × Int)} {n : Nat} {bs : List Nat} (b : BS ps n bs) (i : Nat) : bs.getD i 0 < 2 ^ n := by
  by_cases hi : i < bs.length
  · have : bs.getD i 0 = bs[i] := by simp [List.getD_eq_getElem?_getD, hi]
    rw [this]; exact b.lt _ (List.getElem_mem hi)
  · have : bs.getD i 0 = 0 := by simp only [List.getD_eq_getElem?_getD]; rw [List.getElem?_eq_none (by omega)]; rfl
    rw [this]; exact Nat.pow_pos (by decide)

theorem allS_bit (n j : Nat) : (allS n).testBit j = decide (j < n) := Nat.testBit_two_pow_sub_one n j

theorem allS_step (i : Nat) : allS i ||| 2 ^ i = allS (i + 1) := by
  apply Nat.eq_of_testBit_eq
  intro j
  rw [testBit_or_pow, allS_bit, allS_bit]
  by_cases h : i = j
  · subst h; simp
  · have : decide (j < i) = decide (j < i + 1) := by
      rw [decide_eq_decide]; omega
    simp [h, this]

theorem allS_lt {n : Nat} (h : n ≤ 10) : allS n < 1024 := by
  have e1 : (1 : Nat) ≤ 2 ^ n := Nat.pow_pos (by decide)
  have e2 : (2 : Nat) ^ n ≤ 2 ^ 10 := Nat.pow_le_pow_right (by decide) h
  unfold allS
  omega

theorem C22 {vj vp : Value} {js ps : List (Int × Int)} {h : Heap} {K : Value → Heap → Prop} (hj : PS h vj js) (hp : PS h vp ps) (hjl : js.length ≤ 1000) (hpl : ps.length ≤ 1000)
    (hk0 : formB js ps = false → ∀ h', EX h h' → K (.tuple #[.pointer none, B false]) h')
    (hk : formB js ps = true → ∀ p h' bs, EX h h' → PL h' p js bs → BS ps js.length bs → K (.tuple #[p, B (decide (rndU bs js.length js.length = fullS js.length))]) h') : CallP Try.prog 22 [vj, vp] h K := by
  refine f22 ?_
  simp only [T22, hj.len, OP_some, bin_lss]
  by_cases c1 : 1 ≤ js.length
  rotate_left
  · rw [decide_eq_true (show (js.length : Int) < 1 by omega)]
    simp only [q22z6, GdP_tf, q22z8, iPick_t, OP_some, q22z10, q22z12, IfP_true]
    exact hk0 (by unfold formB; rw [decide_eq_false c1]; simp) h (EX.refl _)
  simp only [decide_eq_false (show ¬ (js.length : Int) < 1 by omega), q22z6, GdP_ff, bin_gtr, OP_some]
  by_cases c2 : js.length ≤ 10
  rotate_left
  · rw [decide_eq_true (show (10 : Int) < (js.length : Int) by omega)]
    simp only [q22z8, iPick_f, OP_some, q22z10, GdP_tf, q22z12, iPick_t, IfP_true]
    exact hk0 (by unfold formB; rw [decide_eq_false c2]; simp) h (EX.refl _)
  simp only [decide_eq_false (show ¬ (10 : Int) < (js.length : Int) by omega), q22z8, iPick_f, OP_some, q22z10, GdP_ff, hp.len, bin_gtr]
  by_cases c3 : ps.length ≤ 40
  rotate_left
  · rw [decide_eq_true (show (40 : Int) < (ps.length : Int) by omega)]
    simp only [q22z12, iPick_f, OP_some, IfP_true]
    exact hk0 (by unfold formB; rw [decide_eq_false c3]; simp) h (EX.refl _)
  simp only [decide_eq_false (show ¬ (40 : Int) < (ps.length : Int) by omega), q22z12, iPick_f, OP_some, IfP_false]
  have h1 := c1
  have h10 := c2
  have h40 := c3
  have hform : formB js ps = (js.all jobB && ps.all (pairB js.length)) := by
    unfold formB; rw [decide_eq_true c1, decide_eq_true c2, decide_eq_true c3]; simp
  rw [hform] at hk0 hk
  generalize hn : js.length = n at *
  have h2n : (2 : Nat) ^ n ≤ 2 ^ 10 := Nat.pow_le_pow_right (by decide) h10
  have hz : ∀ m, zrep [Value.int .u16 0] m = (List.replicate m 0).map fun b : Nat => U b := by
    intro m
    induction m with
    | zero => rfl
    | succ m ih =>
      have : zrep [Value.int .u16 0] (m + 1) = Value.int .u16 0 :: zrep [Value.int .u16 0] m := by simp [zrep, List.replicate_succ]
      rw [this, ih, List.replicate_succ]; rfl
  have mk : iMake 63 2 [.int .u16 0] h (I n) (I n) = some (sl 63 h.length 0 n, h ++ [.arr 63 ((List.replicate n 0).map fun b : Nat => U b)]) := by
    simp only [iMake]
    rw [if_pos ⟨by omega, by omega, by omega, by omega⟩, Int.toNat_natCast, hz]
  obtain ⟨t1, t2⟩ := slice_of_len hj.len
  have bd : iBuild [(.slice none 0 0), (.slice none 0 0)] [(0, 1, vj), (1, 1, sl 63 h.length 0 n)] = some (.agg #[vj, sl 63 h.length 0 n]) := by
    have s1 : noTuple (sl 63 h.length 0 n) = true := rfl
    have s2 : vcells (sl 63 h.length 0 n) = [sl 63 h.length 0 n] := rfl
    simp [iBuild, fillL, t1, t2, s1, s2, setAt]
  have bx : ∀ g : Heap, iBox 85 g (.agg #[vj, sl 63 h.length 0 n]) = some (pt g.length 0, g ++ [.arr 85 [vj, sl 63 h.length 0 n]]) := fun _ => rfl
  simp only [mk, OH_some, bd, OP_some, bx, List.length_append, List.length_cons, List.length_nil, Nat.zero_add]
  have k0 : (h ++ [IObj.arr 63 ((List.replicate n 0).map fun b : Nat => U b)] ++ [IObj.arr 85 [vj, sl 63 h.length 0 n]])[h.length]? = some (.arr 63 ((List.replicate n 0).map fun b : Nat => U b)) := by simp
  have k1 : (h ++ [IObj.arr 63 ((List.replicate n 0).map fun b : Nat => U b)] ++ [IObj.arr 85 [vj, sl 63 h.length 0 n]])[h.length + 1]? = some (.arr 85 [vj, sl 63 h.length 0 n]) := by simp
  have x1 : EX h (h ++ [IObj.arr 63 ((List.replicate n 0).map fun b : Nat => U b)] ++ [IObj.arr 85 [vj, sl 63 h.length 0 n]]) := (EX.append _ _).push _
  generalize h ++ [IObj.arr 63 ((List.replicate n 0).map fun b : Nat => U b)] ++ [IObj.arr 85 [vj, sl 63 h.length 0 n]] = hA at k0 k1 x1 ⊢
  have e30 : ∀ g : Heap, iAlloc 35 [(.int .i64 (0)), (.int .i64 (0))] g = some (pt g.length 0, g ++ [.arr 35 [I 0, I 0]]) := fun _ => rfl
  have e26 : ∀ g : Heap, iAlloc 54 [(.int .i64 (0)), (.int .i64 (0))] g = some (pt g.length 0, g ++ [.arr 54 [I 0, I 0]]) := fun _ => rfl
  have st2 : ∀ (g : Heap) (t : TypeId) (a b : Int), oStore 2 (g ++ [.arr t [I 0, I 0]]) (pt g.length 0) (.agg #[I a, I b]) = some (undef, g ++ [.arr t [I a, I b]]) := by
    intro g t a b
    simp [oStore, iStore, noTuple, vcells, Value.cells, setAt]
  have hjA := hj.mono x1
  have lenJ : iLenSl vj = some (I n) := by rw [hj.len, hn]
  simp only [lenJ, OP_some]
  -- the jobs
  refine loopL (σ := Nat × Heap) (fun p => [I p.1]) (fun p => p.2) (fun p => p.1 ≤ n ∧ EX hA p.2 ∧ (js.take p.1).all jobB = true) (fun p => n - p.1) (0, hA) rfl rfl ⟨Nat.zero_le _, EX.refl _, rfl⟩ ?_
  rintro ⟨i, g⟩ ⟨hi, xg, hall⟩ L hL
  simp only at hi xg hall hL ⊢
  rw [q22z18]
  simp only [bin_lss, OP_some, IfP_dec]
  refine ⟨fun hlt => ?_, fun hge => ?_⟩
  · have hin : i < js.length := by omega
    obtain ⟨b, o, g1, g2, g3, g4⟩ := PS.getD (hjA.mono xg) hin
    simp only [g1, g4, OP_some, e30, OH_some, st2]
    have l0 : iLoad false 1 (g ++ [IObj.arr 35 [I (js.getD i (0, 0)).1, I (js.getD i (0, 0)).2]]) (pt g.length 0) = some (I (js.getD i (0, 0)).1) := load_last rfl
    have l1 : iLoad false 1 (g ++ [IObj.arr 35 [I (js.getD i (0, 0)).1, I (js.getD i (0, 0)).2]]) (pt g.length 1) = some (I (js.getD i (0, 0)).2) := load_last rfl
    have htk : (js.take (i + 1)).all jobB = jobB (js.getD i (0, 0)) := by
      rw [List.take_succ_eq_append_getElem hin, List.all_append, hall]
      simp [List.getD_eq_getElem?_getD, hin]
    have hbad : jobB (js.getD i (0, 0)) = false → js.all jobB = false := by
      intro hb
      rw [← htk] at hb
      rw [← List.take_append_drop (i + 1) js, List.all_append, hb]; rfl
    generalize js.getD i (0, 0) = jb at *
    have stop : jobB jb = false → K (.tuple #[.pointer none, B false]) (g ++ [IObj.arr 35 [I jb.1, I jb.2]]) := fun hb => hk0 (by rw [hbad hb]; rfl) _ ((x1.trans xg).push _)
    simp only [fadr_pt, Nat.add_zero, Nat.zero_add, l0, OP_some, bin_lss]
    by_cases d1 : 1 ≤ jb.1
    rotate_left
    · rw [decide_eq_true (show jb.1 < 1 by omega)]
      simp only [q22z26, GdP_tf, q22z28, iPick_t, OP_some, q22z30, q22z32, q22z34, q22z36, IfP_true]
      exact stop (by unfold jobB; rw [decide_eq_false d1]; rfl)
    simp only [decide_eq_false (show ¬ jb.1 < 1 by omega), q22z26, GdP_ff, fadr_pt, Nat.add_zero, l0, OP_some, bin_gtr]
    by_cases d2 : jb.1 ≤ 50
    rotate_left
    · rw [decide_eq_true (show (50 : Int) < jb.1 by omega)]
      simp only [q22z28, iPick_f, OP_some, q22z30, GdP_tf, q22z32, iPick_t, q22z34, q22z36, IfP_true]
      exact stop (by unfold jobB; rw [decide_eq_false d2]; simp)
    simp only [decide_eq_false (show ¬ (50 : Int) < jb.1 by omega), q22z28, iPick_f, OP_some, q22z30, GdP_ff, fadr_pt, Nat.zero_add, l1, bin_lss]
    by_cases d3 : 0 ≤ jb.2
    rotate_left
    · rw [decide_eq_true (show jb.2 < 0 by omega)]
      simp only [q22z32, iPick_f, OP_some, q22z34, GdP_tf, q22z36, iPick_t, IfP_true]
      exact stop (by unfold jobB; rw [decide_eq_false d3]; simp)
    simp only [decide_eq_false (show ¬ jb.2 < 0 by omega), q22z32, iPick_f, OP_some, q22z34, GdP_ff, fadr_pt, Nat.zero_add, l1, bin_gtr]
    by_cases d4 : jb.2 ≤ 50
    rotate_left
    · rw [decide_eq_true (show (50 : Int) < jb.2 by omega)]
      simp only [q22z36, iPick_f, OP_some, IfP_true]
      exact stop (by unfold jobB; rw [decide_eq_false d4]; simp)
    simp only [decide_eq_false (show ¬ (50 : Int) < jb.2 by omega), q22z36, iPick_f, IfP_false, bin_add, OP_some, inc i (by omega), true_and]
    exact hL (i + 1, _) ⟨by show i + 1 ≤ n; omega, xg.push _, by show (js.take (i + 1)).all jobB = true; rw [htk]; unfold jobB; rw [decide_eq_true d1, decide_eq_true d2, decide_eq_true d3, decide_eq_true d4]; rfl⟩ (by show n - (i + 1) < n - i; omega)
  · have hie : i = n := by omega
    have hjall : js.all jobB = true := by rw [hie, ← hn, List.take_length] at hall; exact hall
    rw [hjall, Bool.true_and] at hk0 hk
    rw [q22z38]
    have kg0 := xg.get k0
    have kg1 := xg.get k1
    have xhg := x1.trans xg
    simp only [(hp.mono xhg).len, OP_some]
    -- the pairs
    refine loopL (σ := Nat × List Nat × Heap) (fun p => [I p.1]) (fun p => p.2.2) (fun p => p.1 ≤ ps.length ∧ EX h p.2.2 ∧ p.2.2[h.length]? = some (.arr 63 (p.2.1.map fun b : Nat => U b)) ∧ p.2.2[h.length + 1]? = some (.arr 85 [vj, sl 63 h.length 0 n]) ∧ BS (ps.take p.1) n p.2.1 ∧ (ps.take p.1).all (pairB n) = true) (fun p => ps.length - p.1)
      (0, List.replicate n 0, g) rfl rfl ⟨Nat.zero_le _, xhg, kg0, kg1, ⟨by simp, fun b hb => by rw [(List.mem_replicate.1 hb).2]; exact Nat.pow_pos (by decide), fun i hi j => by simp [List.getD_eq_getElem?_getD, hi]⟩, rfl⟩ ?_
    rintro ⟨m, bs, g2⟩ ⟨hm, xg2, q0, q1, hbs, hpall⟩ L2 hL2
    simp only at hm xg2 q0 q1 hbs hpall hL2 ⊢
    rw [q22z42]
    simp only [bin_lss, OP_some, IfP_dec]
    refine ⟨fun hlt => ?_, fun hge2 => ?_⟩
    · have hmp : m < ps.length := by omega
      obtain ⟨b, o, g1, g3, g4, g5⟩ := (hp.mono xg2).get m hmp
      have htk : ps.take (m + 1) = ps.take m ++ [ps[m]] := List.take_succ_eq_append_getElem hmp
      have htk2 : (ps.take (m + 1)).all (pairB n) = pairB n ps[m] := by rw [htk, List.all_append, hpall]; simp
      have hbad : pairB n ps[m] = false → ps.all (pairB n) = false := by
        intro hb
        rw [← htk2] at hb
        rw [← List.take_append_drop (m + 1) ps, List.all_append, hb]; rfl
      generalize ps[m] = pr at g3 g4 g5 htk htk2 hbad
      obtain ⟨pa, pb⟩ := pr
      simp only at g5
      simp only [g1, g5, OP_some, e26, OH_some, st2]
      have l0 : iLoad false 1 (g2 ++ [IObj.arr 54 [I pa, I pb]]) (pt g2.length 0) = some (I pa) := load_last rfl
      have l1 : iLoad false 1 (g2 ++ [IObj.arr 54 [I pa, I pb]]) (pt g2.length 1) = some (I pb) := load_last rfl
      have y : EX g2 (g2 ++ [IObj.arr 54 [I pa, I pb]]) := EX.append _ _
      generalize g2 ++ [IObj.arr 54 [I pa, I pb]] = g6 at l0 l1 y ⊢
      have stop : pairB n (pa, pb) = false → K (.tuple #[.pointer none, B false]) g6 := fun hb => hk0 (hbad hb) _ (xg2.trans y)
      simp only [fadr_pt, Nat.add_zero, Nat.zero_add, l0, l1, OP_some, min2, bin_lss]
      by_cases d1 : 0 ≤ min pa pb
      rotate_left
      · rw [decide_eq_true (show min pa pb < 0 by omega)]
        simp only [q22z51, GdP_tf, q22z53, iPick_t, OP_some, q22z55, q22z57, IfP_true]
        exact stop (by unfold pairB; rw [decide_eq_false d1]; rfl)
      simp only [decide_eq_false (show ¬ min pa pb < 0 by omega), q22z51, GdP_ff, fadr_pt, Nat.add_zero, Nat.zero_add, l0, l1, OP_some, max2', bin_geq]
      by_cases d2 : max pa pb < n
      rotate_left
      · rw [decide_eq_true (show (n : Int) ≤ max pa pb by omega)]
        simp only [q22z53, iPick_f, OP_some, q22z55, GdP_tf, q22z57, iPick_t, IfP_true]
        exact stop (by unfold pairB; rw [decide_eq_false d2]; simp)
      simp only [decide_eq_false (show ¬ (n : Int) ≤ max pa pb by omega), q22z53, iPick_f, OP_some, q22z55, GdP_ff, fadr_pt, Nat.add_zero, Nat.zero_add, l0, l1, bin_eql]
      by_cases d3 : pa = pb
      · rw [decide_eq_true d3]
        simp only [q22z57, iPick_f, OP_some, IfP_true]
        exact stop (by unfold pairB; simp only; rw [decide_eq_true d3]; simp)
      simp only [decide_eq_false d3, q22z57, iPick_f, OP_some, IfP_false]
      have hok : pairB n (pa, pb) = true := by unfold pairB; simp only; rw [decide_eq_true d1, decide_eq_true d2, decide_eq_false d3]; rfl
      obtain ⟨a, rfl⟩ : ∃ a : Nat, pa = a := ⟨pa.toNat, by omega⟩
      obtain ⟨c, rfl⟩ : ∃ c : Nat, pb = c := ⟨pb.toNat, by omega⟩
      have hac : a < n ∧ c < n ∧ a ≠ c := by omega
      have r0 := y.get q0
      have r1 := y.get q1
      have ldb : iLoad false 1 g6 (pt (h.length + 1) 1) = some (sl 63 h.length 0 n) := by simp [iLoad, objCells, r1, iPart]
      have hcb : c < bs.length := by rw [hbs.len]; omega
      have ldc : iLoad false 1 g6 (pt h.length c) = some (U (bs.getD c 0)) := by
        simp [iLoad, objCells, r0, iPart, hcb, List.getD_eq_getElem?_getD]
      have hb1 := hbs.getD_lt c
      have hp2 : (2 : Nat) ^ a < 1024 := Nat.lt_of_lt_of_le (Nat.pow_lt_pow_right (by decide) (show a < 10 by omega)) (by decide)
      simp only [fadr_pt, Nat.add_zero, Nat.zero_add, nilck_pt, OP_some, ldb, l0, l1, true_and, adr_sl (show c < n by omega), ldc, shlK skU (show a < 11 by omega), orK skU (show bs.getD c 0 < 1024 by omega) hp2]
      rw [store_at r0 (by simpa using hcb) rfl rfl]
      simp only [OH_some, bin_add, OP_some, inc m (by omega), true_and]
      have es : ((bs.map fun b : Nat => U b).set c (U (bs.getD c 0 ||| 2 ^ a))) = (bs.set c (bs.getD c 0 ||| 2 ^ a)).map fun b : Nat => U b := by rw [List.map_set]
      rw [es]
      refine hL2 (m + 1, bs.set c (bs.getD c 0 ||| 2 ^ a), g6.set h.length (.arr 63 ((bs.set c (bs.getD c 0 ||| 2 ^ a)).map fun b : Nat => U b))) ⟨by show m + 1 ≤ ps.length; omega, (xg2.trans y).set (Nat.le_refl _) _, set_get r0, by show (g6.set _ _)[h.length + 1]? = _; rw [List.getElem?_set_ne (by omega)]; exact r1, ?_, by show (ps.take (m + 1)).all (pairB n) = true; rw [htk2]; exact hok⟩ (by show ps.length - (m + 1) < ps.length - m; omega)
      show BS (ps.take (m + 1)) n (bs.set c (bs.getD c 0 ||| 2 ^ a))
      refine ⟨by rw [List.length_set]; exact hbs.len, ?_, ?_⟩
      · intro b hb
        rcases List.mem_or_eq_of_mem_set hb with h9 | h9
        · exact hbs.lt b h9
        · rw [h9]; exact or_lt hb1 (by omega)
      · intro i' hi' j
        rw [htk]
        have hgd : (bs.set c (bs.getD c 0 ||| 2 ^ a)).getD i' 0 = if c = i' then bs.getD c 0 ||| 2 ^ a else bs.getD i' 0 := by
          simp only [List.getD_eq_getElem?_getD, List.getElem?_set]
          by_cases hc : c = i'
          · subst hc; simp [hcb]
          · simp [hc]
        rw [hgd]
        have hbit := hbs.bit i' hi' j
        by_cases hc : c = i'
        · subst hc
          rw [if_pos rfl, testBit_or_pow, hbit]
          by_cases haj : a = j
          · subst haj; simp
          · have h9 : ¬ ((j : Int) = (a : Int)) := by omega
            simp [haj, h9]
        · rw [if_neg hc, hbit]
          have h9 : ¬ ((i' : Int) = (c : Int)) := by omega
          simp [h9]
    · have hme : m = ps.length := by omega
      subst hme
      rw [List.take_length] at hbs hpall
      have hpl2 : PL g2 (pt (h.length + 1) 0) js bs := by
        refine ⟨h.length + 1, vj, sl 63 h.length 0 n, rfl, by simp [objCells, q1], hj.mono xg2, ?_⟩
        have e : n = (bs.map fun b : Nat => (b : Int)).length := by rw [List.length_map, hbs.len]
        rw [e]
        refine NS.sl (.inr ?_) (by rw [List.length_map, hbs.len]; unfold maxLen; omega)
        simp [objCells, q0]
      have hb1024 : ∀ b ∈ bs, b < 1024 := fun b hb => Nat.lt_of_lt_of_le (hbs.lt b hb) h2n
      have hbl := hbs.len
      rw [q22z59]
      -- rounds
      refine loopL (σ := Nat) (fun r => [U (rndU bs n r), I r]) (fun _ => g2) (fun r => r ≤ n) (fun r => n - r) 0 rfl rfl (Nat.zero_le _) ?_
      intro r hr L3 hL3
      rw [q22z64]
      simp only [bin_lss, OP_some, IfP_dec]
      have hru := rndU_lt bs n r
      refine ⟨fun hlt3 => ?_, fun hge3 => ?_⟩
      · refine loopL (σ := Nat) (fun i => [U (passU bs (rndU bs n r) i), I i]) (fun _ => g2) (fun i => i ≤ n) (fun i => n - i) 0 rfl rfl (Nat.zero_le _) ?_
        intro i hi2 L4 hL4
        rw [q22z71]
        simp only [bin_lss, OP_some, IfP_dec]
        have hpu := passU_lt (bs := bs) hru hi2
        refine ⟨fun hlt4 => ?_, fun hge4 => ?_⟩
        · have hin : i < n := by omega
          have hp2 : (2 : Nat) ^ i < 1024 := Nat.lt_of_lt_of_le (Nat.pow_lt_pow_right (by decide) (show i < 10 by omega)) (by decide)
          refine C26 hpl2 (by omega) (by omega) (by omega) hb1024 ?_
          rw [rdy_eq]
          have nx := hL4 (i + 1) (by show i + 1 ≤ n; omega) (by show n - (i + 1) < n - i; omega)
          simp only [passU] at nx
          refine IfP_of (fun hr1 => ?_) fun hr0 => ?_
          · rw [if_pos hr1] at nx
            simp only [shlK skU (show i < 11 by omega), OP_some, orK skU (show passU bs (rndU bs n r) i < 1024 by omega) hp2, q22z78, bin_add, inc i (by omega), true_and]
            exact nx
          · rw [if_neg (by rw [hr0]; simp)] at nx
            simp only [q22z78, bin_add, OP_some, inc i (by omega), true_and]
            exact nx
        · have hie2 : i = n := by omega
          subst hie2
          simp only [q22z79, bin_add, OP_some, inc r (by omega), true_and]
          exact hL3 (r + 1) (by show r + 1 ≤ i; omega) (by show i - (r + 1) < i - r; omega)
      · have hre : r = n := by omega
        subst hre
        rw [q22z80]
        refine C24 hpl2 (by omega) ?_
        rw [hn]
        simp only [bin_eql, OP_some]
        have e : decide (((rndU bs r r : Nat) : Int) = ((allS r : Nat) : Int)) = decide (rndU bs r r = fullS r) := by
          rw [full_eq, decide_eq_decide]; omega
        rw [e]
        exact hk hpall _ _ bs xg2 hpl2 hbs

end Go.Proofs.Ytelmdbpaoifmoaa

/-
  What is valid; the document's reading of jobs and pairs.
-/
namespace Go.Proofs.Ytelmdbpaoifmoaa
open Go.Sim

def sumW (js : List (Int × Int)) (l : List Nat) : Int := sumL l fun i => (js.getD i (0, 0)).2

theorem sumW_bound {js : List (Int × Int)} (h : smallJ js) : ∀ l : List Nat, (∀ i ∈ l, i < js.length) → 0 ≤ sumW js l ∧ sumW js l ≤ 50 * l.length
  | [], _ => by simp [sumW, sumL]
  | i :: l, hl => by
    have ih := sumW_bound h l fun x hx => hl x (by simp [hx])
    have := h.getD (hl i (by simp))
    unfold sumW at ih ⊢
    simp only [sumL, List.length_cons]
    omega

theorem C45 {p : Value} {js : List (Int × Int)} {bs : List Nat} {s : Nat} {h : Heap} {K : Value → Heap → Prop} (hp : PL h p js bs) (hj : smallJ js) (hl : js.length ≤ 10) (hs : s < 2 ^ js.length) (hk : ∀ h', EX h h' → K (I (sumW js (listS s 10))) h') : CallP Try.prog 45 [p, U s] h K := by
  have h1024 : (2 : Nat) ^ js.length ≤ 2 ^ 10 := Nat.pow_le_pow_right (by decide) hl
  refine f45 (C36 (by omega) ?_)
  intro v g xg hn
  obtain ⟨a, vj, vb, rfl, hc, hjs, hbs⟩ := hp.mono xg
  have hlt : ∀ i ∈ listS s 10, i < js.length := by
    intro i hi
    have h1 := (listS_lt s 10 i hi).2
    apply Classical.byContradiction
    intro hge
    have : s < 2 ^ i := Nat.lt_of_lt_of_le hs (Nat.pow_le_pow_right (by decide) (by omega))
    rw [Nat.testBit_lt_two_pow this] at h1
    cases h1
  have hll := listS_len s 10
  have lenN : iLenSl v = some (I (listS s 10).length) := by have := hn.len; rwa [List.length_map] at this
  simp only [lenN, OP_some]
  refine loopL (σ := Nat) (fun i => [I (sumW js ((listS s 10).take i)), I i]) (fun _ => g) (fun i => i ≤ (listS s 10).length) (fun i => (listS s 10).length - i) 0 rfl rfl (Nat.zero_le _) ?_
  intro i hi L hL
  rw [q45z6]
  simp only [bin_lss, OP_some, IfP_dec]
  refine ⟨fun hlt2 => ?_, fun hge => ?_⟩
  · have hil : i < (listS s 10).length := by omega
    obtain ⟨b, o, g1, g2⟩ := hn.get i (by simpa using hil)
    have e : ((listS s 10).map fun i : Nat => (i : Int))[i]'(by simpa using hil) = ((listS s 10)[i] : Int) := by simp
    rw [e] at g2
    have hm := hlt _ (List.getElem_mem hil)
    obtain ⟨c, q, r1, r2, r3, r4⟩ := PS.getD hjs hm
    have ld : iLoad false 1 g (pt a 0) = some vj := by simp [iLoad, hc, iPart]
    have hst : sumW js ((listS s 10).take (i + 1)) = sumW js ((listS s 10).take i) + (js.getD (listS s 10)[i] (0, 0)).2 := by
      exact sumL_take' _ _ hil
    have hb1 := sumW_bound hj ((listS s 10).take (i + 1)) fun x hx => hlt x (List.mem_of_mem_take hx)
    rw [List.length_take, hst] at hb1
    simp only [g1, g2, OP_some, nilck_pt, fadr_pt, Nat.add_zero, ld, r1, r3, bin_add, inc i (by omega)]
    rw [wrap64 (by omega) (by omega), ← hst]
    simp only [true_and]
    exact hL (i + 1) (by omega) (by omega)
  · have hie : i = (listS s 10).length := by omega
    subst hie
    rw [List.take_length, q45z12]
    exact hk g xg


/-- The set of the numbers below n with some property. -/
def ofB (f : Nat → Bool) : Nat → Nat
  | 0 => 0
  | n + 1 => if f n = true then ofB f n ||| 2 ^ n else ofB f n

theorem ofB_lt (f : Nat → Bool) : ∀ n, ofB f n < 2 ^ n
  | 0 => by simp [ofB]
  | n + 1 => by
    have h := ofB_lt f n
    have h2 : (2 : Nat) ^ n < 2 ^ (n + 1) := Nat.pow_lt_pow_right (by decide) (by omega)
    simp only [ofB]
    split
    · exact or_lt (by omega) (by omega)
    · omega

theorem ofB_bit (f : Nat → Bool) (j : Nat) : ∀ n, (ofB f n).testBit j = (decide (j < n) && f j)
  | 0 => by simp [ofB]
  | n + 1 => by
    have h := ofB_bit f j n
    simp only [ofB]
    by_cases hj : n = j
    · subst hj
      have hf : (ofB f n).testBit n = false := by rw [h]; simp
      split
      · rename_i hn; rw [testBit_or_pow, hf, hn]; simp
      · rename_i hn
        have : f n = false := by simpa using hn
        rw [hf, this]; simp
    · have e : decide (j < n + 1) = decide (j < n) := by rw [decide_eq_decide]; omega
      rw [e]
      split
      · rw [testBit_or_pow, h]; simp [hj]
      · exact h

/-- What must be done before each job. -/
def bsOf (ps : List (Int × Int)) (n : Nat) : List Nat := (List.range n).map fun i : Nat => ofB (fun j : Nat => decide (((j : Int), (i : Int)) ∈ ps)) n

theorem bsOf_len (ps : List (Int × Int)) (n : Nat) : (bsOf ps n).length = n := by simp [bsOf]

theorem bsOf_getD (ps : List (Int × Int)) {n i : Nat} (hi : i < n) : (bsOf ps n).getD i 0 = ofB (fun j : Nat => decide (((j : Int), (i : Int)) ∈ ps)) n := by
  simp [bsOf, List.getD_eq_getElem?_getD, hi]

theorem BS.uniq {ps : List (Int × Int)} {n : Nat} {bs bs' : List Nat} (b : BS ps n bs) (b' : BS ps n bs') : bs = bs' := by
  apply List.ext_getElem (by rw [b.len, b'.len])
  intro i h1 h2
  have e1 : bs[i] = bs.getD i 0 := by simp [List.getD_eq_getElem?_getD, h1]
  have e2 : bs'[i] = bs'.getD i 0 := by simp [List.getD_eq_getElem?_getD, h2]
  rw [e1, e2]
  apply Nat.eq_of_testBit_eq
  intro j
  have hi : i < n := by rw [← b.len]; exact h1
  rw [b.bit i hi j, b'.bit i hi j]

theorem pairB_mem {n : Nat} {ps : List (Int × Int)} (h : ps.all (pairB n) = true) {p : Int × Int} (hp : p ∈ ps) : (0 ≤ p.1 ∧ p.1 < n) ∧ (0 ≤ p.2 ∧ p.2 < n) ∧ p.1 ≠ p.2 := by
  have := List.all_eq_true.1 h p hp
  simp only [pairB, Bool.and_eq_true, decide_eq_true_eq, Bool.not_eq_true', decide_eq_false_iff_not] at this
  omega

theorem BS.of {ps : List (Int × Int)} {n : Nat} (h : ps.all (pairB n) = true) : BS ps n (bsOf ps n) := by
  refine ⟨bsOf_len ps n, ?_, ?_⟩
  · intro b hb
    simp only [bsOf, List.mem_map, List.mem_range] at hb
    obtain ⟨i, _, rfl⟩ := hb
    exact ofB_lt _ n
  · intro i hi j
    rw [bsOf_getD ps hi, ofB_bit]
    by_cases hm : ((j : Int), (i : Int)) ∈ ps
    · have := pairB_mem h hm
      simp only at this
      rw [decide_eq_true (show j < n by omega), decide_eq_true hm]; rfl
    · rw [decide_eq_false hm, Bool.and_false]

def validB (js ps : List (Int × Int)) : Bool := formB js ps && decide (rndU (bsOf ps js.length) js.length js.length = fullS js.length)

/-- Jobs and pairs that are valid, in words that proofs use. -/
structure Vd (js ps : List (Int × Int)) (n : Nat) (bs : List Nat) : Prop where
  hn : js.length = n
  n1 : 1 ≤ n
  n10 : n ≤ 10
  p40 : ps.length ≤ 40
  small : smallJ js
  pairs : ps.all (pairB n) = true
  eq : bs = bsOf ps n
  is : BS ps n bs
  ac : acyc bs n

theorem validB_of {js ps : List (Int × Int)} (h : validB js ps = true) : Vd js ps js.length (bsOf ps js.length) := by
  unfold validB at h
  rw [Bool.and_eq_true, decide_eq_true_eq] at h
  obtain ⟨a, b, c⟩ := formB_small h.1
  have hp : ps.all (pairB js.length) = true := by
    have := h.1
    simp only [formB, Bool.and_eq_true] at this
    exact this.2.2
  exact ⟨rfl, a.1, a.2, b, c, hp, rfl, BS.of hp, acyc_of h.2⟩

theorem Vd.b1024 {js ps : List (Int × Int)} {n : Nat} {bs : List Nat} (v : Vd js ps n bs) : ∀ b ∈ bs, b < 1024 := by
  have h2n : (2 : Nat) ^ n ≤ 2 ^ 10 := Nat.pow_le_pow_right (by decide) v.n10
  exact fun b hb => Nat.lt_of_lt_of_le (v.is.lt b hb) h2n

theorem Vd.two {js ps : List (Int × Int)} {n : Nat} {bs : List Nat} (v : Vd js ps n bs) : 2 ^ n ≤ 1024 := Nat.pow_le_pow_right (show 0 < 2 by decide) v.n10

/-- Jobs and pairs are read. -/
theorem C22v {vj vp : Value} {js ps : List (Int × Int)} {h : Heap} {K : Value → Heap → Prop} (hj : PS h vj js) (hp : PS h vp ps) (hjl : js.length ≤ 1000) (hpl : ps.length ≤ 1000)
    (hk0 : validB js ps = false → ∀ p h', EX h h' → K (.tuple #[p, B false]) h')
    (hk : Vd js ps js.length (bsOf ps js.length) → validB js ps = true → ∀ p h', EX h h' → PL h' p js (bsOf ps js.length) → K (.tuple #[p, B true]) h') : CallP Try.prog 22 [vj, vp] h K := by
  refine C22 hj hp hjl hpl (fun hf h' x => hk0 (by unfold validB; rw [hf]; rfl) _ h' x) ?_
  intro hf p h' bs x hpl' hbs
  have hpa : ps.all (pairB js.length) = true := by
    have := hf
    simp only [formB, Bool.and_eq_true] at this
    exact this.2.2
  obtain rfl := hbs.uniq (BS.of hpa)
  have e : validB js ps = decide (rndU (bsOf ps js.length) js.length js.length = fullS js.length) := by unfold validB; rw [hf]; rfl
  rw [← e]
  cases hv : validB js ps with
  | false => exact hk0 hv p h' x
  | true => exact hk (validB_of hv) hv p h' x hpl'

theorem C27 {v lo hi : Int} {h : Heap} {K : Value → Heap → Prop} (hk : K (B (decide (lo ≤ v) && decide (v ≤ hi))) h) : CallP Try.prog 27 [I v, I lo, I hi] h K := by
  refine f27 ?_
  simp only [T27, bin_geq, OP_some]
  by_cases h1 : lo ≤ v
  · rw [decide_eq_true h1, Bool.true_and] at hk
    simp only [decide_eq_true h1, q27z4, GdP_tt, bin_leq, OP_some, q27z6, iPick_t]
    exact hk
  · rw [decide_eq_false h1, Bool.false_and] at hk
    simp only [decide_eq_false h1, q27z4, GdP_ft, OP_some, q27z6, iPick_f]
    exact hk

/-- What is ahead of a job: the document's set. -/
theorem C28 {vp : Value} {ps : List (Int × Int)} {n j : Nat} {h : Heap} {K : Value → Heap → Prop} (hp : PS h vp ps) (h40 : ps.length ≤ 1000) (hup : ps.all (pairB n) = true) (hn : n ≤ 10) (hj : j < n) (hk : K (I ((bsOf ps n).getD j 0)) h) :
    CallP Try.prog 28 [vp, I j] h K := by
  refine f28 ?_
  unfold T28
  have h2n : (2 : Nat) ^ n ≤ 2 ^ 10 := Nat.pow_le_pow_right (by decide) hn
  have hbs := BS.of hup
  refine loopL (σ := Nat × Nat) (fun p => [I p.2, I p.1]) (fun _ => h) (fun p => p.1 ≤ ps.length ∧ p.2 < 2 ^ n ∧ ∀ a : Nat, p.2.testBit a = decide (((a : Int), (j : Int)) ∈ ps.take p.1)) (fun p => ps.length - p.1) (0, 0) rfl rfl ⟨Nat.zero_le _, Nat.pow_pos (by decide), fun a => by simp⟩ ?_
  rintro ⟨i, s⟩ ⟨hi, hs, hb⟩ L hL
  simp only at hi hs hb hL ⊢
  rw [q28z6]
  simp only [hp.len, OP_some, bin_lss, IfP_dec]
  refine ⟨fun hlt => ?_, fun hge => ?_⟩
  · have hip : i < ps.length := by omega
    obtain ⟨b, o, g1, g2, g3, _⟩ := hp.get i hip
    have hpu := pairB_mem hup (List.getElem_mem hip)
    have htk : ps.take (i + 1) = ps.take i ++ [ps[i]] := List.take_succ_eq_append_getElem hip
    generalize ps[i] = pr at g2 g3 hpu htk
    obtain ⟨pa, pb⟩ := pr
    simp only at g2 g3 hpu
    obtain ⟨a, rfl⟩ : ∃ a : Nat, pa = a := ⟨pa.toNat, by omega⟩
    simp only [g1, OP_some, fadr_pt, Nat.add_zero, g3, bin_eql, IfP_dec]
    refine ⟨fun he => ?_, fun hne => ?_⟩
    · have ha : a < n := by omega
      have hp2 : (2 : Nat) ^ a < 1024 := Nat.lt_of_lt_of_le (Nat.pow_lt_pow_right (by decide) (show a < 10 by omega)) (by decide)
      simp only [g2, OP_some, shlK skI (show a < 11 by omega), orK skI (show s < 1024 by omega) hp2, q28z12, bin_add, inc i (by omega), true_and]
      refine hL (i + 1, s ||| 2 ^ a) ⟨by show i + 1 ≤ ps.length; omega, or_lt hs ha, fun c => ?_⟩ (by show ps.length - (i + 1) < ps.length - i; omega)
      show (s ||| 2 ^ a).testBit c = decide (((c : Int), (j : Int)) ∈ ps.take (i + 1))
      rw [testBit_or_pow, hb c, htk]
      by_cases hac : a = c
      · subst hac; simp [he]
      · have : ¬ ((c : Int) = (a : Int)) := by omega
        simp [hac, this]
    · simp only [q28z12, bin_add, OP_some, inc i (by omega), true_and]
      refine hL (i + 1, s) ⟨by show i + 1 ≤ ps.length; omega, hs, fun c => ?_⟩ (by show ps.length - (i + 1) < ps.length - i; omega)
      show s.testBit c = decide (((c : Int), (j : Int)) ∈ ps.take (i + 1))
      rw [hb c, htk]
      have : ¬ ((j : Int) = pb) := fun h => hne h.symm
      simp [this]
  · have hie : i = ps.length := by omega
    subst hie
    rw [List.take_length] at hb
    rw [q28z13]
    have : s = (bsOf ps n).getD j 0 := by
      apply Nat.eq_of_testBit_eq
      intro a
      rw [hb a, hbs.bit j hj a]
    rw [this]
    exact hk

end Go.Proofs.Ytelmdbpaoifmoaa

/-
  Orders and their cost, both sides, whatever the list.
-/
namespace Go.Proofs.Ytelmdbpaoifmoaa
open Go.Sim

theorem smallJ.all {js : List (Int × Int)} (h : smallJ js) (i : Nat) : (0 ≤ lenJ js i ∧ lenJ js i ≤ 50) ∧ 0 ≤ weiJ js i ∧ weiJ js i ≤ 50 := by
  unfold lenJ weiJ
  by_cases hi : i < js.length
  · have := h.getD hi; omega
  · have : js.getD i (0, 0) = (0, 0) := by
      simp only [List.getD_eq_getElem?_getD]
      rw [List.getElem?_eq_none (by omega)]; rfl
    rw [this]; simp

theorem NS.getN {h : Heap} {v : Value} {l : List Nat} (p : NS h v .i64 (l.map fun i : Nat => (i : Int))) {i : Nat} (hi : i < l.length) : ∃ b o, iAdrSl 1 v (I i) = some (pt b o) ∧ iLoad false 1 h (pt b o) = some (I l[i]) := by
  obtain ⟨b, o, g1, g2⟩ := p.get i (by simpa using hi)
  exact ⟨b, o, g1, by rw [g2]; simp⟩

theorem NS.lenN {h : Heap} {v : Value} {l : List Nat} (p : NS h v .i64 (l.map fun i : Nat => (i : Int))) : iLenSl v = some (I l.length) := by have := p.len; rwa [List.length_map] at this

/-- A list is an order so far. -/
def okI (bs : List Nat) (n : Nat) (l : List Int) : Bool := (l.all fun x => decide (0 ≤ x)) && okO bs n 0 (l.map Int.toNat)

theorem okI_step {bs : List Nat} {n : Nat} {l : List Int} {i : Nat} (hi : i < l.length) (h : okI bs n (l.take i) = true) :
    okI bs n (l.take (i + 1)) = ((decide (0 ≤ l[i]) && decide (l[i].toNat < n)) && rdyS bs (stO 0 ((l.take i).map Int.toNat)) l[i].toNat) := by
  unfold okI at h ⊢
  rw [Bool.and_eq_true] at h
  rw [List.take_succ_eq_append_getElem hi, List.all_append, h.1, List.map_append, okO_append, h.2]
  simp [okO, Bool.and_assoc]

theorem okI_cut {bs : List Nat} {n : Nat} {l : List Int} {i : Nat} (h : okI bs n (l.take i) = false) : okI bs n l = false := by
  rw [← List.take_append_drop i l]
  generalize l.take i = a at h
  generalize l.drop i = b
  unfold okI at h ⊢
  rw [List.all_append, List.map_append, okO_append]
  cases h1 : (a.all fun x => decide (0 ≤ x)) with
  | false => rfl
  | true =>
    rw [h1, Bool.true_and] at h
    rw [h]; simp

theorem okI_cast {bs : List Nat} {n : Nat} {l : List Int} (h : okI bs n l = true) : l = (l.map Int.toNat).map fun i : Nat => (i : Int) := by
  unfold okI at h
  rw [Bool.and_eq_true, List.all_eq_true] at h
  rw [List.map_map]
  symm
  rw [List.map_congr_left (g := fun x => x)]
  · exact List.map_id' l
  · intro x hx
    have := of_decide_eq_true (h.1 x hx)
    simp only [Function.comp]
    omega

theorem okI_nat (bs : List Nat) (n : Nat) (l : List Nat) : okI bs n (l.map fun i : Nat => (i : Int)) = okO bs n 0 l := by
  unfold okI
  have e1 : ((l.map fun i : Nat => (i : Int)).all fun x => decide (0 ≤ x)) = true := by
    rw [List.all_eq_true]
    intro x hx
    simp only [List.mem_map] at hx
    obtain ⟨i, _, rfl⟩ := hx
    exact decide_eq_true (Int.natCast_nonneg i)
  have e2 : (l.map fun i : Nat => (i : Int)).map Int.toNat = l := by
    rw [List.map_map]
    exact (List.map_congr_left fun x _ => by simp).trans (List.map_id' l)
  rw [e1, e2]; rfl

theorem okO_all_lt {bs : List Nat} {n : Nat} {l : List Int} (h : okI bs n l = true) : ∀ i ∈ l.map Int.toNat, i < n := by
  unfold okI at h
  rw [Bool.and_eq_true] at h
  exact okO_lt h.2

/-- The document tells whether a list is an order. -/
theorem C12 {vj vp vl : Value} {js ps : List (Int × Int)} {bs : List Nat} {l : List Int} {n : Nat} {h : Heap} {K : Value → Heap → Prop} (hj : PS h vj js) (hp : PS h vp ps) (v : Vd js ps n bs)
    (hl : NS h vl .i64 l) (hlen : l.length ≤ 1000) (hk : K (B (okI bs n l && decide (l.length = n))) h) : CallP Try.prog 12 [vj, vp, vl] h K := by
  refine f12 ?_
  unfold T12
  have hn := v.hn
  have h10 := v.n10
  have h2n := v.two
  have hpos : (0 : Nat) < 2 ^ n := Nat.pow_pos (by decide)
  refine loopL (σ := Nat) (fun i => [I (stO 0 ((l.take i).map Int.toNat)), I i]) (fun _ => h) (fun i => i ≤ l.length ∧ okI bs n (l.take i) = true) (fun i => l.length - i) 0 rfl rfl ⟨Nat.zero_le _, rfl⟩ ?_
  rintro i ⟨hi, hok⟩ L hL
  have hst : stO 0 ((l.take i).map Int.toNat) < 2 ^ n := stO_lt hpos (okO_all_lt hok)
  rw [q12z6]
  simp only [hl.len, OP_some, bin_lss, IfP_dec]
  refine ⟨fun hlt2 => ?_, fun hge => ?_⟩
  · have hil : i < l.length := by omega
    obtain ⟨b, o, g1, g2⟩ := hl.get i hil
    have hstep := okI_step hil hok
    have hcut : okI bs n (l.take (i + 1)) = false → K (B false) h := by
      intro hf
      rw [okI_cut hf] at hk; exact hk
    have hstk : stO 0 ((l.take (i + 1)).map Int.toNat) = stO 0 ((l.take i).map Int.toNat) ||| 2 ^ l[i].toNat := by
      rw [List.take_succ_eq_append_getElem hil, List.map_append, stO_append]; rfl
    have nx := hL (i + 1)
    rw [hstk] at nx
    rw [hstep] at nx hcut
    generalize stO 0 ((l.take i).map Int.toNat) = s at *
    generalize l[i] = a at *
    have e1 : IntKind.wrap .i64 ((js.length : Int) - 1) = (n : Int) - 1 := by rw [wrap64 (by omega) (by omega)]; omega
    simp only [g1, g2, OP_some, hj.len, bin_sub, e1]
    refine C27 ?_
    by_cases hr : 0 ≤ a ∧ a ≤ (n : Int) - 1
    rotate_left
    · have e : (decide (0 ≤ a) && decide (a ≤ (n : Int) - 1)) = false := by
        rw [Bool.eq_false_iff]; intro hc; rw [Bool.and_eq_true, decide_eq_true_eq, decide_eq_true_eq] at hc; exact hr hc
      have e' : (decide (0 ≤ a) && decide (a.toNat < n)) = false := by
        rw [Bool.eq_false_iff]; intro hc; rw [Bool.and_eq_true, decide_eq_true_eq, decide_eq_true_eq] at hc; omega
      rw [e]
      simp only [un_not, OP_some, Bool.not_false, q12z14, GdP_tf, q12z16, iPick_t, q12z18, q12z20, IfP_true]
      exact hcut (by rw [e']; rfl)
    have e : (decide (0 ≤ a) && decide (a ≤ (n : Int) - 1)) = true := by rw [decide_eq_true hr.1, decide_eq_true hr.2]; rfl
    rw [e]
    obtain ⟨c, rfl⟩ : ∃ c : Nat, a = c := ⟨a.toNat, by omega⟩
    have e' : (decide (0 ≤ (c : Int)) && decide ((c : Int).toNat < n)) = true := by
      rw [Bool.and_eq_true, decide_eq_true_eq, decide_eq_true_eq]; omega
    rw [e', Bool.true_and] at nx hcut
    rw [Int.toNat_natCast] at nx hcut
    have hd : s / 2 ^ c < 1024 := Nat.lt_of_le_of_lt (Nat.div_le_self _ _) (by omega)
    have ha := andK skI hd (show 1 < 1024 by decide)
    have ha' : iBin .and (.int .i64 ((s / 2 ^ c : Nat) : Int)) (.int .i64 1) = some (.int .i64 ((s / 2 ^ c &&& 1 : Nat) : Int)) := ha
    have hbit : decide (((s / 2 ^ c &&& 1 : Nat) : Int) = 1) = s.testBit c := by
      rw [Nat.testBit_eq_decide_div_mod_eq, bit_and, decide_eq_decide]; omega
    simp only [un_not, OP_some, Bool.not_true, q12z14, GdP_ff, g1, g2, shrK skI (show c < 16 by omega), ha', bin_eql, hbit]
    cases ht : s.testBit c with
    | true =>
      simp only [q12z16, iPick_f, OP_some, q12z18, GdP_tf, q12z20, iPick_t, IfP_true]
      exact hcut (by unfold rdyS; rw [ht]; rfl)
    | false =>
      simp only [q12z16, iPick_f, OP_some, q12z18, GdP_ff, g1, g2]
      refine C28 hp (by have := v.p40; omega) v.pairs h10 (by omega) ?_
      rw [← v.eq]
      have hba := v.is.getD_lt c
      have hp2 : (2 : Nat) ^ c < 1024 := Nat.lt_of_lt_of_le (Nat.pow_lt_pow_right (by decide) (show c < 10 by omega)) (by decide)
      simp only [andNotD skI (show bs.getD c 0 < 1024 by omega) (show s < 1024 by omega), OP_some, bin_neq, q12z20, iPick_f]
      cases hs : subB (bs.getD c 0) s with
      | false =>
        have hne : ¬ (((difS (bs.getD c 0) s : Nat) : Int) = 0) := by
          intro h0
          have := difS_zero.1 (show difS (bs.getD c 0) s = 0 by omega)
          rw [hs] at this; cases this
        rw [decide_eq_false hne]
        simp only [Bool.not_false, IfP_true]
        exact hcut (by unfold rdyS; rw [hs]; simp)
      | true =>
        have h0 : ((difS (bs.getD c 0) s : Nat) : Int) = 0 := by rw [difS_zero.2 hs]; rfl
        rw [decide_eq_true h0]
        simp only [Bool.not_true, IfP_false, g1, g2, OP_some, shlK skI (show c < 11 by omega), orK skI (show s < 1024 by omega) hp2, bin_add, inc i (by omega), true_and]
        exact nx ⟨by omega, by unfold rdyS; rw [ht, hs]; rfl⟩ (by omega)
  · have hie : i = l.length := by omega
    rw [hie, List.take_length] at hok
    rw [hok, Bool.true_and] at hk
    rw [q12z22]
    simp only [hl.len, hj.len, OP_some, bin_eql]
    have e : decide ((l.length : Int) = (js.length : Int)) = decide (l.length = n) := by rw [decide_eq_decide]; omega
    rw [e]
    exact hk

theorem C13 {vj vl : Value} {js : List (Int × Int)} {l : List Nat} {h : Heap} {K : Value → Heap → Prop} (hj : PS h vj js) (hsm : smallJ js) (hl : NS h vl .i64 (l.map fun i : Nat => (i : Int))) (hlt : ∀ i ∈ l, i < js.length) (hlen : l.length ≤ 10)
    (hk : K (I (costF js 0 l)) h) : CallP Try.prog 13 [vj, vl] h K := by
  refine f13 ?_
  unfold T13
  refine loopL (σ := Nat) (fun i => [I (endF js 0 (l.take i)), I (costF js 0 (l.take i)), I i]) (fun _ => h) (fun i => i ≤ l.length) (fun i => l.length - i) 0 rfl rfl (Nat.zero_le _) ?_
  intro i hi L hL
  rw [q13z6]
  simp only [NS.lenN hl, OP_some, bin_lss, IfP_dec]
  refine ⟨fun hlt2 => ?_, fun hge => ?_⟩
  · have hil : i < l.length := by omega
    obtain ⟨b, o, g1, g2⟩ := NS.getN hl hil
    obtain ⟨c, q, r1, r2, r3, _⟩ := PS.getD hj (hlt _ (List.getElem_mem hil))
    have he := endF_take js 0 hil
    have hc := costF_take js 0 hil
    have hb1 := cost_bound hsm.all (l.take (i + 1)) 0 (Int.le_refl _) (by rw [List.length_take]; omega)
    have hb0 := cost_bound hsm.all (l.take i) 0 (Int.le_refl _) (by rw [List.length_take]; omega)
    have hal := hsm.all l[i]
    rw [List.length_take] at hb1 hb0
    have r2' : iLoad false 1 h (pt c q) = some (I (lenJ js l[i])) := r2
    have r3' : iLoad false 1 h (pt c (q + 1)) = some (I (weiJ js l[i])) := r3
    have hw1 : IntKind.wrap .i64 (endF js 0 (l.take i) + lenJ js l[i]) = endF js 0 (l.take (i + 1)) := by rw [← he, wrap64 (by omega) (by omega)]
    have hm1 : 0 ≤ weiJ js l[i] * endF js 0 (l.take (i + 1)) := Int.mul_nonneg hal.2.1 (by omega)
    have hm2 : weiJ js l[i] * endF js 0 (l.take (i + 1)) ≤ 50 * 1000 := Int.mul_le_mul hal.2.2 (by omega) (by omega) (by omega)
    have hw2 : IntKind.wrap .i64 (weiJ js l[i] * endF js 0 (l.take (i + 1))) = weiJ js l[i] * endF js 0 (l.take (i + 1)) := wrap64 (by omega) (by omega)
    rw [← he] at hc
    have hw3 : IntKind.wrap .i64 (costF js 0 (l.take i) + weiJ js l[i] * endF js 0 (l.take (i + 1))) = costF js 0 (l.take (i + 1)) := by rw [← hc, wrap64 (by omega) (by omega)]
    simp only [g1, g2, OP_some, r1, fadr_pt, Nat.add_zero, r2', bin_add, hw1, r3', bin_mul, hw2, hw3, inc i (by omega), true_and]
    exact hL (i + 1) (by omega) (by omega)
  · have hie : i = l.length := by omega
    subst hie
    rw [List.take_length, q13z12]
    exact hk

theorem trip (a b c : Value) : (#[a, b, c] : Array Value)[0]? = some a ∧ (#[a, b, c] : Array Value)[1]? = some b ∧ (#[a, b, c] : Array Value)[2]? = some c := ⟨rfl, rfl, rfl⟩

end Go.Proofs.Ytelmdbpaoifmoaa

/-
  The decomposition: whatever the order in which the sets are looked at.
-/
namespace Go.Proofs.Ytelmdbpaoifmoaa
open Go.Sim

theorem smallJ.pos {js : List (Int × Int)} {n : Nat} (h : smallJ js) (hn : js.length = n) : PosJ js n :=
  ⟨fun i => (h.all i).1.1, fun i hi => by unfold lenJ; exact (h.getD (by omega)).1.1, fun i => (h.all i).2.1⟩

theorem listS_eq (s : Nat) : ∀ n, listS s n = listS' s n
  | 0 => rfl
  | n + 1 => by simp only [listS, listS', listS_eq s n]

theorem sumJ_eq (js : List (Int × Int)) (s : Nat) : sumJ js (listS s 10) = lS js s := by
  rw [listS_eq]; exact sumB_list (lenJ js) s 10
theorem sumW_eq (js : List (Int × Int)) (s : Nat) : sumW js (listS s 10) = wS js s := by
  rw [listS_eq]; exact sumB_list (weiJ js) s 10

theorem lS_le {js : List (Int × Int)} (h : smallJ js) (s : Nat) : 0 ≤ lS js s ∧ lS js s ≤ 500 :=
  ⟨sumB_nonneg (fun i => (h.all i).1.1) s 10, sumB_le (c := 50) (fun i => (h.all i).1) s 10⟩
theorem wS_le {js : List (Int × Int)} (h : smallJ js) (s : Nat) : 0 ≤ wS js s ∧ wS js s ≤ 500 :=
  ⟨sumB_nonneg (fun i => (h.all i).2.1) s 10, sumB_le (c := 50) (fun i => (h.all i).2) s 10⟩
theorem mul_le {a b : Int} (ha : 0 ≤ a ∧ a ≤ 500) (hb : 0 ≤ b ∧ b ≤ 500) : 0 ≤ a * b ∧ a * b ≤ 250000 := by
  have h1 : 0 ≤ a * b := Int.mul_nonneg ha.1 hb.1
  have h2 : a * b ≤ 500 * 500 := Int.mul_le_mul ha.2 hb.2 hb.1 (by omega)
  omega

theorem convU {s : Nat} (hs : s < 32768) : iConv .u16 (I s) = some (U s) := by
  rw [conv_int, skU.wrap (by omega) (by omega)]

theorem clB_list {bs : List Nat} {n s : Nat} (hn : n ≤ 10) (hs : s < 2 ^ n) : clB bs n s = (listS s 10).all fun i => subB (bs.getD i 0) s := by
  rw [Bool.eq_iff_iff, clB_iff, List.all_eq_true]
  constructor
  · intro h i hi
    have h2 := (listS_lt s 10 i hi).2
    rw [subB_iff]
    exact h i (bit_lt hs h2) h2
  · intro h i hi hb
    have hm : i ∈ listS s 10 := by
      have key : ∀ m, i < m → i ∈ listS s m := by
        intro m
        induction m with
        | zero => intro h; omega
        | succ m ih =>
          intro him
          simp only [listS]
          by_cases e : i = m
          · subst e; rw [hb]; simp
          · have := ih (by omega)
            split
            · exact List.mem_append_left _ this
            · exact this
      exact key 10 (by omega)
    exact subB_iff.1 (h i hm)

theorem U_eq (a b : Nat) : decide ((a : Int) = (b : Int)) = decide (a = b) := by
  rw [decide_eq_decide]; omega

theorem updG {g : Heap} {im : Nat} {s : Nat} {l : List Nat} (hg : g[im]? = some (.gmap (.int .u16) s (mapE .u16 l))) (hs : s ∉ l) : oMupdG (.int .u16) g (.map (some im)) (U s) (.bool true) = some (undef, g.set im (.gmap (.int .u16) (s + 1) (mapE .u16 (l ++ [s])))) := by
  have h1 : gkIs (.int .u16) (U s) = true := rfl
  simp only [oMupdG, iMupdG, hg]
  rw [if_pos (by simp [h1, noTuple]), (setG_new .u16 hs).1, (setG_new .u16 hs).2]
  rfl

theorem delG {g : Heap} {im c : Nat} {s : Nat} {es : List (Nat × Value × Value)} (hg : g[im]? = some (.gmap (.int .u16) c es)) : oDelG (.int .u16) g (.map (some im)) (U s) = some (.tuple #[], g.set im (.gmap (.int .u16) c (eraG (U s) es))) := by
  have h1 : gkIs (.int .u16) (U s) = true := rfl
  simp only [oDelG, iDelG, hg]
  rw [if_pos (by simp [h1])]
  rfl

/-- Sets that were looked at, as what comes next. -/
def SnS (d : Nat) (seen : List Nat) (m : Nat) : Prop := ∃ s ∈ seen, (s &&& d = d ∧ s ≠ d) ∧ m = difS s d

theorem C38 {p : Value} {js : List (Int × Int)} {bs os : List Nat} {n : Nat} {h : Heap} {K : Value → Heap → Prop} (hp : PL h p js bs) (hn : js.length = n) (h1 : 1 ≤ n) (h10 : n ≤ 10) (hsm : smallJ js) (hbl : bs.length = n) (hb : ∀ b ∈ bs, b < 2 ^ n)
    (hos : SidP bs js n 0 os) (hk : K (sl 63 h.length 0 os.length) (h ++ [.arr 63 (os.map fun b : Nat => U b)])) : CallP Try.prog 38 [p] h K := by
  have plain : plainObj (.arr 63 (os.map fun b : Nat => U b)) = true := by
    simp only [plainObj, List.all_map, List.all_eq_true]
    intro x _; rfl
  refine callN_new (V := fun i => sl 63 i 0 os.length) (o := .arr 63 (os.map fun b : Nat => U b)) (Ren.sl 63 0 os.length) plain (f38 ?_) hk
  have h2n : (2 : Nat) ^ n ≤ 2 ^ 10 := Nat.pow_le_pow_right (by decide) h10
  have two : 2 ≤ 2 ^ n := by have := Nat.pow_le_pow_right (show 0 < 2 by decide) h1; simpa using this
  have hb1024 : ∀ b ∈ bs, b < 1024 := fun b h => Nat.lt_of_lt_of_le (hb b h) h2n
  have hfs : fullS n + 1 = 2 ^ n := by unfold fullS; omega
  have P := hsm.pos hn
  unfold T38
  simp only [iMkMapG, OH_some]
  have hp1 : PL (h ++ [.gmap (.int .u16) 0 []]) p js bs := hp.mono (EX.append _ _)
  refine C24 hp1 (by omega) ?_
  rw [hn, full_eq]
  have wf : IntKind.wrap .i64 ((fullS n : Nat) : Int) = ((fullS n : Nat) : Int) := wrap64 (by omega) (by omega)
  simp only [conv_int, wf, OP_some, bin_add, inc (fullS n) (by omega), hfs]
  -- the sets that can come first
  refine loopL (σ := Nat × Heap) (fun q => [I q.1]) (fun q => q.2) (fun q => q.1 ≤ 2 ^ n ∧ EX h q.2 ∧ q.2[h.length]? = some (.gmap (.int .u16) q.1 (mapE .u16 (CLs bs n q.1)))) (fun q => 2 ^ n - q.1) (0, _) rfl rfl
    ⟨Nat.zero_le _, EX.append _ _, by simp [CLs, mapE]⟩ ?_
  rintro ⟨s, g⟩ ⟨hs, xg, hm⟩ L hL
  simp only at hs xg hm hL ⊢
  rw [q38z6]
  simp only [bin_lss, OP_some, IfP_dec]
  refine ⟨fun hlt => ?_, fun hge => ?_⟩
  · have hlt' : s < 2 ^ n := by omega
    have hnm : s ∉ CLs bs n s := fun hx => by have := (CLs_lt hx).1; omega
    simp only [convU (show s < 32768 by omega), OP_some, updG hm hnm, OH_some]
    have xg1 : EX h (g.set h.length (.gmap (.int .u16) (s + 1) (mapE .u16 (CLs bs n s ++ [s])))) := xg.set (Nat.le_refl _) _
    have hm1 : (g.set h.length (.gmap (.int .u16) (s + 1) (mapE .u16 (CLs bs n s ++ [s]))))[h.length]? = some (.gmap (.int .u16) (s + 1) (mapE .u16 (CLs bs n s ++ [s]))) := set_get hm
    generalize g.set h.length (.gmap (.int .u16) (s + 1) (mapE .u16 (CLs bs n s ++ [s]))) = g1 at xg1 hm1 ⊢
    refine C36 (show s < 1024 by omega) ?_
    intro v g2 xg2 hns
    have lenN : iLenSl v = some (I (listS s 10).length) := by have := hns.len; rwa [List.length_map] at this
    have hll := listS_len s 10
    simp only [lenN, OP_some]
    refine loopL (σ := Nat × Heap) (fun q => [I q.1]) (fun q => q.2) (fun q => q.1 ≤ (listS s 10).length ∧ (CX g2 q.2 ∧ EX h q.2) ∧ q.2[h.length]? = some (.gmap (.int .u16) (s + 1) (mapE .u16 (if ((listS s 10).take q.1).all (fun i => subB (bs.getD i 0) s) = true then CLs bs n s ++ [s] else CLs bs n s))))
      (fun q => (listS s 10).length - q.1) (0, g2) rfl rfl ⟨Nat.zero_le _, ⟨CX.refl _, xg1.trans xg2⟩, by simpa using xg2.get hm1⟩ ?_
    rintro ⟨k, g3⟩ ⟨hk3, ⟨xg3, xh3⟩, hm3⟩ L2 hL2
    simp only at hk3 xg3 xh3 hm3 hL2 ⊢
    rw [q38z15]
    simp only [bin_lss, OP_some, IfP_dec]
    refine ⟨fun hlt3 => ?_, fun hge3 => ?_⟩
    · have hkl : k < (listS s 10).length := by omega
      obtain ⟨b, o, r1, r2⟩ := (NS.monoC xg3 hns).get k (by simpa using hkl)
      have e : ((listS s 10).map fun i : Nat => (i : Int))[k]'(by simpa using hkl) = ((listS s 10)[k] : Int) := by simp
      rw [e] at r2
      have hi := listS_lt s 10 _ (List.getElem_mem hkl)
      have hin := bit_lt hlt' hi.2
      obtain ⟨a, vj, vb, rfl, hc, hj, hbs⟩ := hp.mono xh3
      have ld : iLoad false 1 g3 (pt a 1) = some vb := by simp [iLoad, hc, iPart]
      obtain ⟨b2, o2, t1, t2⟩ := NS.getU hbs (i := (listS s 10)[k]) (by omega)
      have hbi : bs.getD (listS s 10)[k] 0 < 1024 := by
        have e3 : bs.getD (listS s 10)[k] 0 = bs[(listS s 10)[k]]'(by omega) := by simp [List.getD_eq_getElem?_getD, show (listS s 10)[k] < bs.length by omega]
        rw [e3]; exact hb1024 _ (List.getElem_mem _)
      have and1 := andNotD skU hbi (show s < 1024 by omega)
      simp only [r1, r2, OP_some, nilck_pt, fadr_pt, Nat.zero_add, ld, t1, t2, convU (show s < 32768 by omega), and1, bin_neq]
      have ez : decide (((difS (bs.getD (listS s 10)[k] 0) s : Nat) : Int) = 0) = subB (bs.getD (listS s 10)[k] 0) s := by
        cases hq : subB (bs.getD (listS s 10)[k] 0) s with
        | true => exact decide_eq_true (by have := difS_zero.2 hq; omega)
        | false => exact decide_eq_false (by intro h0; have := difS_zero.1 (show difS (bs.getD (listS s 10)[k] 0) s = 0 by omega); rw [hq] at this; cases this)
      rw [ez]
      have htk : ((listS s 10).take (k + 1)).all (fun i => subB (bs.getD i 0) s) = (((listS s 10).take k).all (fun i => subB (bs.getD i 0) s) && subB (bs.getD (listS s 10)[k] 0) s) := by
        rw [List.take_succ_eq_append_getElem hkl, List.all_append]; simp
      refine IfP_of (fun hq => ?_) fun hq => ?_
      · have hq' : subB (bs.getD (listS s 10)[k] 0) s = false := by simpa using hq
        simp only [delG hm3, OP_some, OH_some]
        rw [q38z22]
        simp only [bin_add, OP_some, inc k (by omega), true_and]
        refine hL2 (k + 1, _) ⟨by show k + 1 ≤ _; omega, ⟨xg3.trans (CX.setG hm3), xh3.set (Nat.le_refl _) _⟩, ?_⟩ (by show _ - (k + 1) < _ - k; omega)
        rw [htk, hq', Bool.and_false]
        simp only [Bool.false_eq_true, if_false]
        rw [set_get hm3]
        split
        · rw [eraG_last .u16 hnm]
        · rw [eraG_none .u16 hnm]
      · have hq' : subB (bs.getD (listS s 10)[k] 0) s = true := by simpa using hq
        rw [q38z22]
        simp only [bin_add, OP_some, inc k (by omega), true_and]
        refine hL2 (k + 1, g3) ⟨by show k + 1 ≤ _; omega, ⟨xg3, xh3⟩, ?_⟩ (by show _ - (k + 1) < _ - k; omega)
        rw [htk, hq', Bool.and_true]
        exact hm3
    · have hke : k = (listS s 10).length := by omega
      subst hke
      rw [List.take_length, ← clB_list h10 hlt', ← CLs_succ] at hm3
      rw [q38z23]
      simp only [bin_add, OP_some, inc s (by omega), true_and]
      exact hL (s + 1, g3) ⟨by show s + 1 ≤ _; omega, xh3, hm3⟩ (by show _ - (s + 1) < _ - s; omega)
  · have hse : s = 2 ^ n := by omega
    subst hse
    rw [q38z24]
    -- one set after the other
    refine loopL (σ := Nat × List Nat × Value × Heap) (fun q => [q.2.2.1, U q.1]) (fun q => q.2.2.2) (fun q => q.1 < 2 ^ n ∧ (∀ r, SidP bs js n q.1 r → SidP bs js n 0 (q.2.1 ++ r)) ∧ q.2.1.length ≤ q.1 ∧
        (EX h q.2.2.2 ∧ q.2.2.2[h.length]? = some (.gmap (.int .u16) (2 ^ n) (mapE .u16 (CLs bs n (2 ^ n))))) ∧ OwnS (h.length + 1) q.2.2.2 63 q.2.2.1 (q.2.1.map fun b : Nat => U b)) (fun q => 2 ^ n - q.1)
      (0, [], .slice none 0 0, g) rfl rfl ⟨by show 0 < 2 ^ n; omega, fun r hr => hr, Nat.le_refl _, ⟨xg, hm⟩, .inl ⟨rfl, rfl⟩⟩ ?_
    rintro ⟨d, out, vo, g2⟩ ⟨hd, hsid, hol, ⟨xg2, hm2⟩, own⟩ L1 hL1
    simp only at hd hsid hol xg2 hm2 own hL1 ⊢
    rw [q38z29]
    refine C24 (hp.mono xg2) (by omega) ?_
    rw [hn, full_eq]
    simp only [bin_neq, OP_some, U_eq]
    refine IfP_of (fun hne => ?_) fun heq => ?_
    · have hdf : d < fullS n := by simp at hne; omega
      have g2l : h.length < g2.length := (List.getElem?_eq_some_iff.1 hm2).1
      have rg : iRangeG g2 (.map (some h.length)) = some (pt g2.length 0, g2 ++ [.iter h.length (2 ^ n) [] (2 ^ n)]) := by
        simp only [iRangeG, hm2]
      simp only [rg, OH_some]
      have xi : EX g2 (g2 ++ [.iter h.length (2 ^ n) [] (2 ^ n)]) := EX.append _ _
      have gi : (g2 ++ [IObj.iter h.length (2 ^ n) [] (2 ^ n)])[g2.length]? = some (.iter h.length (2 ^ n) [] (2 ^ n)) := by simp
      generalize g2 ++ [IObj.iter h.length (2 ^ n) [] (2 ^ n)] = g3 at xi gi ⊢
      refine loopL (σ := Nat × List Nat × Heap) (fun q => [U q.1]) (fun q => q.2.2) (fun q => q.1 < 2 ^ n ∧ (∀ s ∈ q.2.1, s ∈ CLs bs n (2 ^ n)) ∧ Sofar bs js n d (SnS d q.2.1) q.1 ∧ EX g2 q.2.2 ∧ q.2.2[g2.length]? = some (.iter h.length (2 ^ n) q.2.1 (2 ^ n)))
        (fun q => ((CLs bs n (2 ^ n)).filter fun s => !q.2.1.contains s).length) (0, [], g3) rfl rfl ⟨by show 0 < 2 ^ n; omega, fun s hs => by simp at hs, .start _ _ _ _ (fun x ⟨s, hs, _⟩ => by simp at hs), xi, gi⟩ ?_
      rintro ⟨best, seen, g4⟩ ⟨hbest, hseen, hso, xg4, hi4⟩ L2 hL2
      simp only at hbest hseen hso xg4 hi4 hL2 ⊢
      rw [q38z37]
      have hm4 := xg4.get hm2
      rw [nexts_mapE hm4 hi4 (fun s hs => (CLs_lt hs).1), NxP_some]
      intro pr hpr
      rcases List.mem_append.1 hpr with hpr | hpr
      · -- all were seen
        split at hpr
        · rename_i hemp
          have : pr = (.tuple #[.bool false], g4) := by simpa using hpr
          subst this
          have x0 : iExt 0 (.tuple #[Value.bool false]) = some (.bool false) := rfl
          simp only [x0, OP_some, IfP_false]
          have hall : ∀ x, Rel1 bs n d x → SnS d seen x := by
            intro x hx
            obtain ⟨⟨c1, c2⟩, c3, c4⟩ := of_rel hd hx
            refine ⟨d ||| x, ?_, c3, c4⟩
            have hme := CLs_mem c1 c2
            apply Classical.byContradiction
            intro hns
            have : (d ||| x) ∈ (CLs bs n (2 ^ n)).filter fun s => !seen.contains s := List.mem_filter.2 ⟨hme, by simpa using hns⟩
            rw [List.isEmpty_iff.1 hemp] at this
            simp at this
          have hS := hso.all P h10 hall (rel_full hb hdf)
          obtain ⟨s1, s2, s3⟩ := hS.step hd
          rw [q38z57]
          have own4 : OwnS (h.length + 1) g4 63 vo (out.map fun b : Nat => U b) := own.keep fun d' n' hv hd' => by
            have := (own.lt hv).2.1
            exact xg4.2 d' this
          have xh4 := xg2.trans xg4
          refine app1p own4 (by simp; omega) (by simp [maxLen]; omega) rfl rfl ?_
          intro w1 hx' _ hlen hold hnew
          simp only [OH_some, orK skU (show d < 1024 by omega) (show best < 1024 by omega), OP_some, true_and]
          have g4l : g2.length ≤ g4.length := xg4.1
          have keep : ∀ d', d' < g4.length → d' < h.length + 1 → hx'[d']? = g4[d']? := fun d' hd' hlo => hold d' hd' fun n' hv => by
            have := (own4.lt hv).1
            omega
          refine hL1 (d ||| best, out ++ [best], sl 63 (g4.length + 1) 0 ((out.map fun b : Nat => U b).length + 1), hx') ⟨s2, ?_, ?_, ⟨?_, ?_⟩, ?_⟩ (by show _ - (d ||| best) < _ - d; omega)
          · intro r hr
            have := hsid (best :: r) ⟨hS, hr⟩
            simpa using this
          · show (out ++ [best]).length ≤ d ||| best
            simp; omega
          · refine ⟨by have := xh4.1; show h.length ≤ hx'.length; omega, fun i hi => ?_⟩
            rw [keep i (by omega) (by omega)]
            exact xh4.2 i hi
          · show hx'[h.length]? = _
            rw [keep h.length (by omega) (by omega)]
            exact hm4
          · refine .inr ⟨g4.length + 1, by show h.length + 1 ≤ _; omega, ?_, ?_⟩
            · show sl 63 (g4.length + 1) 0 _ = sl 63 (g4.length + 1) 0 _
              simp
            · show hx'[g4.length + 1]? = _
              rw [hnew]; simp
        · simp at hpr
      · obtain ⟨s, hsf, rfl⟩ := List.mem_map.1 hpr
        obtain ⟨hsC, hsn⟩ := List.mem_filter.1 hsf
        obtain ⟨hslt, hscl⟩ := CLs_lt hsC
        have x0 : iExt 0 (.tuple #[Value.bool true, .int .u16 (s : Int), B true]) = some (.bool true) := rfl
        simp only [x0, OP_some, IfP_true]
        have xg5 : EX g2 (g4.set g2.length (.iter h.length (2 ^ n) (seen ++ [s]) (2 ^ n))) := xg4.set (Nat.le_refl _) _
        have gi5 : (g4.set g2.length (.iter h.length (2 ^ n) (seen ++ [s]) (2 ^ n)))[g2.length]? = some (.iter h.length (2 ^ n) (seen ++ [s]) (2 ^ n)) := set_get hi4
        generalize g4.set g2.length (.iter h.length (2 ^ n) (seen ++ [s]) (2 ^ n)) = g5 at xg5 gi5 ⊢
        have hm5 := xg5.get hm2
        have en : iEntry g5 (pt g2.length 0) = some (.tuple #[U s, B true]) := by
          simp only [iEntry, pt, gi5, hm5, List.getLast?_append, List.getLast?_singleton, Option.some_or, if_true]
          rw [find_mapE .u16 s hsC]
          rfl
        have hseen' : ∀ x ∈ seen ++ [s], x ∈ CLs bs n (2 ^ n) := by
          intro x hx
          rcases List.mem_append.1 hx with hx | hx
          · exact hseen x hx
          · have : x = s := by simpa using hx
            subst this; exact hsC
        have hmeas : ((CLs bs n (2 ^ n)).filter fun x => !(seen ++ [s]).contains x).length < ((CLs bs n (2 ^ n)).filter fun x => !seen.contains x).length := by
          have e1 : (CLs bs n (2 ^ n)).filter (fun x => !(seen ++ [s]).contains x) = ((CLs bs n (2 ^ n)).filter fun x => !seen.contains x).filter fun x => !decide (x = s) := by
            rw [List.filter_filter]
            congr 1
            funext x
            rw [List.contains_eq_any_beq, List.contains_eq_any_beq, List.any_append]
            by_cases hxs : x = s
            · subst hxs; simp
            · have : (s == x) = false := by simpa using fun h => hxs h.symm
              simp [hxs, this]
          rw [e1]
          exact List.length_filter_lt_length_iff_exists.2 ⟨s, hsf, by simp⟩
        simp only [en, OP_some, ext_tuple, pair0, andK skU (show s < 1024 by omega) (show d < 1024 by omega), bin_neq, U_eq]
        rw [q38z45]
        have finish : ∀ (b' : Nat) (g6 : Heap), b' < 2 ^ n → Sofar bs js n d (SnS d (seen ++ [s])) b' → EX g5 g6 → L2 [U b'] g6 := fun b' g6 hb' hso' x6 =>
          hL2 (b', seen ++ [s], g6) ⟨hb', hseen', hso', xg5.trans x6, x6.get gi5⟩ hmeas
        by_cases c1 : s &&& d = d
        rotate_left
        · rw [decide_eq_false c1]
          simp only [Bool.not_false, GdP_tf]
          rw [q38z47]
          simp only [iPick_t, OP_some, IfP_true, true_and]
          refine finish best g5 hbest (hso.congr ?_) (EX.refl _)
          rintro x ⟨s', hs', c3, c4⟩
          rcases List.mem_append.1 hs' with hs' | hs'
          · exact ⟨s', hs', c3, c4⟩
          · have : s' = s := by simpa using hs'
            subst this; exact absurd c3.1 c1
        rw [decide_eq_true c1]
        simp only [Bool.not_true, GdP_ff, bin_eql, OP_some, U_eq]
        rw [q38z47]
        by_cases c2 : s = d
        · rw [decide_eq_true c2]
          simp only [iPick_f, OP_some, IfP_true, true_and]
          refine finish best g5 hbest (hso.congr ?_) (EX.refl _)
          rintro x ⟨s', hs', c3, c4⟩
          rcases List.mem_append.1 hs' with hs' | hs'
          · exact ⟨s', hs', c3, c4⟩
          · have : s' = s := by simpa using hs'
            subst this; exact absurd c2 c3.2
        rw [decide_eq_false c2]
        have hR := rel_of hslt hscl c1 c2
        simp only [iPick_f, OP_some, IfP_false, andNotD skU (show s < 1024 by omega) (show d < 1024 by omega)]
        generalize hmd : difS s d = m at hR ⊢
        have hmlt := hR.lt
        have hcong : ∀ x, SnS d (seen ++ [s]) x → SnS d seen x ∨ x = m := by
          rintro x ⟨s', hs', c3, c4⟩
          rcases List.mem_append.1 hs' with hs' | hs'
          · exact .inl ⟨s', hs', c3, c4⟩
          · have : s' = s := by simpa using hs'
            subst this; exact .inr (by rw [c4, hmd])
        have hpl5 : PL g5 p js bs := hp.mono (xg2.trans xg5)
        refine C45 hpl5 hsm (by omega) (by rw [hn]; exact hmlt) fun g6 x6 => ?_
        refine C25 (hpl5.mono x6) hsm (by omega) (by rw [hn]; exact hbest) fun g7 x7 => ?_
        rw [sumW_eq, sumJ_eq]
        have bA := mul_le (wS_le hsm m) (lS_le hsm best)
        have bB := mul_le (wS_le hsm best) (lS_le hsm m)
        have x57 := x6.trans x7
        simp only [bin_mul, OP_some, wrap64 (show -9223372036854775808 ≤ wS js m * lS js best by omega) (show wS js m * lS js best < 9223372036854775808 by omega)]
        refine C45 (hpl5.mono x57) hsm (by omega) (by rw [hn]; exact hbest) fun g8 x8 => ?_
        refine C25 (hpl5.mono (x57.trans x8)) hsm (by omega) (by rw [hn]; exact hmlt) fun g9 x9 => ?_
        rw [sumW_eq, sumJ_eq]
        have x59 := (x57.trans x8).trans x9
        have ez : decide (((best : Nat) : Int) = 0) = decide (best = 0) := by rw [decide_eq_decide]; omega
        simp only [bin_mul, OP_some, wrap64 (show -9223372036854775808 ≤ wS js best * lS js m by omega) (show wS js best * lS js m < 9223372036854775808 by omega), bin_eql, ez]
        rw [q38z53]
        by_cases b0 : best = 0
        · rw [decide_eq_true b0]
          simp only [GdP_tf]
          rw [q38z55]
          simp only [iPick_t, OP_some, IfP_true, true_and]
          exact finish m g9 hmlt ((hso.take P h10 hR (.inl b0)).congr hcong) x59
        rw [decide_eq_false b0]
        simp only [GdP_ff, bin_gtr, OP_some]
        rw [q38z55]
        by_cases c3 : wS js best * lS js m < wS js m * lS js best
        · rw [decide_eq_true c3]
          simp only [iPick_f, OP_some, IfP_true, true_and]
          exact finish m g9 hmlt ((hso.take P h10 hR (.inr c3)).congr hcong) x59
        rw [decide_eq_false c3]
        simp only [iPick_f, OP_some, IfP_false, bin_eql]
        by_cases c4 : wS js best * lS js m = wS js m * lS js best
        · rw [decide_eq_true c4.symm]
          simp only [IfP_true, orK skU (show best < 1024 by omega) (show m < 1024 by omega), OP_some, true_and]
          exact finish _ g9 (Nat.or_lt_two_pow hbest hmlt) ((hso.join P h10 hR b0 c4).congr hcong) x59
        · rw [decide_eq_false (fun h => c4 h.symm)]
          simp only [IfP_false, true_and]
          exact finish best g9 hbest ((hso.pass P h10 hR b0 (by omega)).congr hcong) x59
    · have hde : d = fullS n := by simpa using heq
      rw [q38z58]
      have e := SidP.uniq (hsid [] hde) hos
      rw [List.append_nil] at e
      subst e
      have hne : out ≠ [] := by
        rintro rfl
        have h0 : (0 : Nat) = fullS n := hos
        omega
      refine ⟨xg2, ?_⟩
      rcases own with ⟨_, h2⟩ | ⟨i, i1, i2, i3⟩
      · exact absurd (by simpa using h2) hne
      · exact ⟨i, by omega, i3, by rw [i2, List.length_map]⟩

end Go.Proofs.Ytelmdbpaoifmoaa

/-
  How many orders there are, as a call answers.
-/
namespace Go.Proofs.Ytelmdbpaoifmoaa
open Go.Sim

theorem pow10_pos : ∀ k : Nat, (0 : Int) < 10 ^ k
  | 0 => by decide
  | k + 1 => by have := pow10_pos k; rw [Int.pow_succ]; omega

theorem lefts_bound (bs : List Nat) {n : Nat} (hn : n ≤ 10) : ∀ (k s : Nat), s < 2 ^ n → n - cardS s n ≤ k → 0 ≤ lefts bs n s ∧ lefts bs n s ≤ 10 ^ k
  | 0, s, hs, hk => by
    have hc := cardS_le s n
    have e := (cardS_lt_iff hs).1 (show cardS s n = n by omega)
    rw [e, lefts_full]; simp
  | k + 1, s, hs, hk => by
    by_cases e : s = fullS n
    · rw [e, lefts_full]
      have : (1 : Int) ≤ 10 ^ (k + 1) := pow10_pos _
      omega
    · rw [lefts_rec bs n (by unfold fullS at *; omega)]
      have key : ∀ m, m ≤ n → 0 ≤ (rsum m fun i => if rdyS bs s i = true then lefts bs n (s ||| 2 ^ i) else 0) ∧ (rsum m fun i => if rdyS bs s i = true then lefts bs n (s ||| 2 ^ i) else 0) ≤ m * 10 ^ k := by
        intro m hm
        have hp : (0 : Int) ≤ 10 ^ k := Int.le_of_lt (pow10_pos _)
        induction m with
        | zero => simp [rsum]
        | succ m ih =>
          have ih := ih (by omega)
          simp only [rsum]
          have e1 : ((m + 1 : Nat) : Int) * 10 ^ k = m * 10 ^ k + 10 ^ k := by rw [Int.natCast_add, Int.add_mul]; simp
          rw [e1]
          split
          · rename_i hr
            have h1 := cardS_lt (s := s) (t := s ||| 2 ^ m) (fun j hj => by rw [Nat.testBit_or, hj]; rfl) (rdyS_bit hr) (by rw [Nat.testBit_or, Nat.testBit_two_pow_self]; simp) (show m < n by omega)
            have := lefts_bound bs hn k (s ||| 2 ^ m) (or_lt hs (by omega)) (by omega)
            omega
          · omega
      have h1 := key n (Nat.le_refl _)
      refine ⟨h1.1, Int.le_trans h1.2 ?_⟩
      have hp : (0 : Int) ≤ 10 ^ k := Int.le_of_lt (pow10_pos _)
      have : (n : Int) * 10 ^ k ≤ 10 * 10 ^ k := Int.mul_le_mul_of_nonneg_right (by omega) hp
      rw [Int.pow_succ, Int.mul_comm (10 ^ k)]
      exact this

theorem lefts_range (bs : List Nat) {n : Nat} (hn : n ≤ 10) {s : Nat} (hs : s < 2 ^ n) : 0 ≤ lefts bs n s ∧ lefts bs n s ≤ 10000000000 := by
  have := lefts_bound bs hn 10 s hs (by omega)
  have e : (10 : Int) ^ 10 = 10000000000 := by decide
  omega

theorem C33 {id o : Nat} {m : Int} {h : Heap} {K : Value → Heap → Prop} (hl : iLoad false 1 h (pt id o) = some (I m)) (hk : K (I m) h) : CallP Try.prog 33 [.slice (some ⟨id, o, some 3⟩) 1 1] h K := by
  refine f33 ?_
  have e1 : iLenSl (.slice (some ⟨id, o, some 3⟩) 1 1) = some (I 1) := rfl
  have e2 : iAdrSl 1 (.slice (some ⟨id, o, some 3⟩) 1 1) (I 0) = some (pt id o) := by simp [iAdrSl]
  simp only [T33, e1, OP_some, bin_lss, decide_eq_false (show ¬ (1 : Int) < 1 by decide), IfP_false, q33z4, e2, hl]
  refine loopL (σ := Nat) (fun _ => [I m, I 1]) (fun _ => h) (fun _ => True) (fun _ => 0) 0 rfl rfl trivial ?_
  intro i _ L hL
  rw [q33z9]
  simp only [e1, OP_some, bin_lss, decide_eq_false (show ¬ (1 : Int) < 1 by decide), IfP_false, q33z14]
  exact hk

theorem C18 {vj vp : Value} {js ps : List (Int × Int)} {h : Heap} {K : Value → Heap → Prop} (hj : PS h vj js) (hp : PS h vp ps) (hjl : js.length ≤ 1000) (hpl0 : ps.length ≤ 1000)
    (hk0 : validB js ps = false → ∀ h', EX h h' → K (.tuple #[I 0, I 1]) h')
    (hk : Vd js ps js.length (bsOf ps js.length) → validB js ps = true → ∀ h', EX h h' → K (.tuple #[I (lefts (bsOf ps js.length) js.length 0), I 0]) h') : CallP Try.prog 18 [vj, vp] h K := by
  refine f18 (C22v hj hp hjl hpl0 (fun hv p g xg => ?_) (fun v hv p g xg hpl => ?_))
  · simp only [ext_tuple, pair0, pair1, OP_some, un_not, Bool.not_false, IfP_true]
    exact hk0 hv g xg
  have hbs := v.is
  have h1 := v.n1
  have h10 := v.n10
  have hrange : -9223372036854775808 ≤ lefts (bsOf ps js.length) js.length 0 ∧ lefts (bsOf ps js.length) js.length 0 < 9223372036854775808 := by
    have := lefts_range (bsOf ps js.length) h10 (show 0 < 2 ^ js.length from Nat.pow_pos (by decide))
    omega
  have hfin : ∀ h', EX g h' → K (.tuple #[I (lefts (bsOf ps js.length) js.length 0), I 0]) h' := fun h' x => hk v hv h' (xg.trans x)
  clear v
  generalize bsOf ps js.length = bs at *
  have hlenj : js.length = bs.length := hbs.len.symm
  have hpj : iLenSl vj = some (I js.length) := hj.len
  simp only [ext_tuple, pair0, pair1, OP_some, un_not, Bool.not_true, IfP_false]
  refine C24 hpl h10 ?_
  generalize hn : js.length = n at *
  have hF1024 := allS_lt h10
  have h2n : (2 : Nat) ^ n ≤ 2 ^ 10 := Nat.pow_le_pow_right (by decide) h10
  have h2p : 2 ≤ 2 ^ n := by
    have : (2 : Nat) ^ 1 ≤ 2 ^ n := Nat.pow_le_pow_right (by decide) h1
    omega
  have hFull : allS n + 1 = 2 ^ n := by unfold allS; omega
  have hz : ∀ m, zrep [Value.int .i64 0] m = (List.replicate m 0).map fun b : Int => I b := by
    intro m
    induction m with
    | zero => rfl
    | succ m ih =>
      have : zrep [Value.int .i64 0] (m + 1) = Value.int .i64 0 :: zrep [Value.int .i64 0] m := by simp [zrep, List.replicate_succ]
      rw [this, ih, List.replicate_succ]; rfl
  have mk : iMake 3 8 [.int .i64 0] g (I (2 ^ n : Nat)) (I (2 ^ n : Nat)) = some (sl 3 g.length 0 (2 ^ n), g ++ [.arr 3 ((List.replicate (2 ^ n) 0).map fun b : Int => I b)]) := by
    simp only [iMake]
    rw [if_pos ⟨by omega, by omega, by omega, by omega⟩, Int.toNat_natCast, hz]
  simp only [conv_int, OP_some]
  rw [wrap64 (n := ((allS n : Nat) : Int)) (by omega) (by omega)]
  simp only [bin_add, OP_some, inc (allS n) (by omega), hFull, mk, OH_some]
  have ad0 : iAdrSl 1 (sl 3 g.length 0 (2 ^ n)) (I 0) = some (pt g.length 0) := adr_sl (show 0 < 2 ^ n by omega)
  have lenW : iLenSl (sl 3 g.length 0 (2 ^ n)) = some (I (2 ^ n : Nat)) := rfl
  simp only [ad0, OP_some]
  rw [store_at get_last (by simp; omega) rfl rfl]
  simp only [OH_some, lenW, OP_some]
  have x0 : EX g ((g ++ [IObj.arr 3 ((List.replicate (2 ^ n) 0).map fun b : Int => I b)]).set g.length (.arr 3 (((List.replicate (2 ^ n) 0).map fun b : Int => I b).set 0 (I 1)))) := EX.set (EX.append _ _) (Nat.le_refl _) _
  have k0 : ((g ++ [IObj.arr 3 ((List.replicate (2 ^ n) 0).map fun b : Int => I b)]).set g.length (.arr 3 (((List.replicate (2 ^ n) 0).map fun b : Int => I b).set 0 (I 1))))[g.length]? = some (.arr 3 (((List.replicate (2 ^ n) 0).set 0 1).map fun b : Int => I b)) := by
    rw [set_get get_last, List.map_set]
  have phi0 : ∃ q, phi bs n ((List.replicate (2 ^ n) 0).set 0 1) 0 (2 ^ n) = lefts bs n 0 + q * M64 := by
    refine ⟨0, ?_⟩
    rw [phi_set bs n _ 0 1 (by simp; omega) (Nat.le_refl 0) (2 ^ n) (by omega)]
    have hz0 : ∀ m, phi bs n (List.replicate (2 ^ n) 0) 0 m = 0 := by
      intro m
      induction m with
      | zero => rfl
      | succ m ih =>
        simp only [phi, ih]
        have : (List.replicate (2 ^ n) (0 : Int)).getD (0 + m) 0 = 0 := by
          simp only [List.getD_eq_getElem?_getD, List.getElem?_replicate]
          split <;> rfl
        rw [this]; simp
    rw [hz0]
    have : (List.replicate (2 ^ n) (0 : Int)).getD 0 0 = 0 := by
      simp only [List.getD_eq_getElem?_getD, List.getElem?_replicate]
      split <;> rfl
    rw [this]; simp
  have hb1024 : ∀ b ∈ bs, b < 1024 := fun b hb => Nat.lt_of_lt_of_le (hbs.lt b hb) h2n
  have hbl := hbs.len
  refine loopL (σ := Nat × List Int × Heap) (fun p => [I p.1]) (fun p => p.2.2)
    (fun p => p.1 ≤ 2 ^ n ∧ EX g p.2.2 ∧ p.2.2[g.length]? = some (.arr 3 (p.2.1.map fun b : Int => I b)) ∧ p.2.1.length = 2 ^ n ∧ (∀ w ∈ p.2.1, -9223372036854775808 ≤ w ∧ w < 9223372036854775808) ∧ (p.1 < 2 ^ n → ∃ q, phi bs n p.2.1 p.1 (2 ^ n - p.1) = lefts bs n 0 + q * M64) ∧ (p.1 = 2 ^ n → ∃ q, p.2.1.getD (allS n) 0 = lefts bs n 0 + q * M64)) (fun p => 2 ^ n - p.1)
    (0, (List.replicate (2 ^ n) 0).set 0 1, _) rfl rfl ⟨Nat.zero_le _, x0, k0, by simp, by
      intro w hw
      rcases List.mem_or_eq_of_mem_set hw with h9 | h9
      · rw [(List.mem_replicate.1 h9).2]; omega
      · omega, fun _ => phi0, fun h0 => by exfalso; simp only at h0; omega⟩ ?_
  rintro ⟨s, ws, hx⟩ ⟨hs, xx, kx, wl, wr, ph1, ph2⟩ L hL
  simp only at hs xx kx wl wr ph1 ph2 hL ⊢
  have hplx := hpl.mono xx
  rw [q18z11]
  simp only [bin_lss, OP_some, IfP_dec]
  refine ⟨fun hlt => ?_, fun hge => ?_⟩
  · have hsn : s < 2 ^ n := by omega
    simp only [hpj, OP_some]
    obtain ⟨q0, hq0⟩ := ph1 hsn
    have hfirst := phi_first bs n ws s (2 ^ n - s - 1)
    rw [show 2 ^ n - s - 1 + 1 = 2 ^ n - s by omega] at hfirst
    rw [hfirst] at hq0
    refine loopL (σ := Nat × List Int × Heap) (fun p => [I p.1]) (fun p => p.2.2)
      (fun p => p.1 ≤ n ∧ EX g p.2.2 ∧ p.2.2[g.length]? = some (.arr 3 (p.2.1.map fun b : Int => I b)) ∧ p.2.1.length = 2 ^ n ∧ (∀ w ∈ p.2.1, -9223372036854775808 ≤ w ∧ w < 9223372036854775808) ∧
        (∃ q, p.2.1.getD s 0 * (lefts bs n s - rsum p.1 fun i => if rdyS bs s i = true then lefts bs n (s ||| 2 ^ i) else 0) + phi bs n p.2.1 (s + 1) (2 ^ n - s - 1) = lefts bs n 0 + q * M64)) (fun p => n - p.1)
      (0, ws, hx) rfl rfl ⟨Nat.zero_le _, xx, kx, wl, wr, q0, by simp only [rsum, Int.sub_zero]; exact hq0⟩ ?_
    rintro ⟨i, us, hy⟩ ⟨hi, xy, ky, ul, ur, ⟨q1, hq1⟩⟩ L2 hL2
    simp only at hi xy ky ul ur hq1 hL2 ⊢
    have hply := hpl.mono xy
    rw [q18z19]
    simp only [bin_lss, OP_some, IfP_dec]
    refine ⟨fun hlt2 => ?_, fun hge2 => ?_⟩
    · have hin : i < n := by omega
      have ew : IntKind.wrap .u16 (s : Int) = (s : Int) := skU.wrap (by omega) (by omega)
      simp only [conv_int, OP_some, ew]
      refine C26 hply (by omega) (by omega) (by omega) hb1024 ?_
      rw [rdy_eq]
      refine IfP_of (fun hr => ?_) fun hr => ?_
      · have hlt3 := lt_or_pow (rdyS_bit hr)
        have hor := or_lt hsn hin
        have hp2 : (2 : Nat) ^ i < 1024 := Nat.lt_of_lt_of_le (Nat.pow_lt_pow_right (by decide) (show i < 10 by omega)) (by decide)
        have ld : ∀ t, t < 2 ^ n → iLoad false 1 hy (pt g.length t) = some (I (us.getD t 0)) := by
          intro t ht
          have htl : t < us.length := by omega
          simp [iLoad, objCells, ky, iPart, List.getD_eq_getElem?_getD, htl]
        simp only [shlK skI (show i < 11 by omega), OP_some, orK skI (show s < 1024 by omega) hp2, adr_sl hor, ld _ hor, true_and, adr_sl hsn, ld _ hsn, bin_add]
        rw [store_at ky (by simp; omega) rfl rfl]
        simp only [OH_some, q18z26, bin_add, OP_some, inc i (by omega), true_and]
        obtain ⟨q2, hq2⟩ := wrap_mod (us.getD (s ||| 2 ^ i) 0 + us.getD s 0)
        have hrng : -9223372036854775808 ≤ IntKind.wrap .i64 (us.getD (s ||| 2 ^ i) 0 + us.getD s 0) ∧ IntKind.wrap .i64 (us.getD (s ||| 2 ^ i) 0 + us.getD s 0) < 9223372036854775808 := by
          generalize us.getD (s ||| 2 ^ i) 0 + us.getD s 0 = y
          have e : IntKind.wrap .i64 y = if 9223372036854775808 ≤ y % 18446744073709551616 then y % 18446744073709551616 - 18446744073709551616 else y % 18446744073709551616 := by
            simp [IntKind.wrap, IntKind.bits, IntKind.signed]
          rw [e]
          split <;> omega
        have es : (us.map fun b : Int => I b).set (s ||| 2 ^ i) (I (IntKind.wrap .i64 (us.getD (s ||| 2 ^ i) 0 + us.getD s 0))) = (us.set (s ||| 2 ^ i) (IntKind.wrap .i64 (us.getD (s ||| 2 ^ i) 0 + us.getD s 0))).map fun b : Int => I b := by rw [List.map_set]
        rw [es]
        refine hL2 (i + 1, us.set (s ||| 2 ^ i) (IntKind.wrap .i64 (us.getD (s ||| 2 ^ i) 0 + us.getD s 0)), _) ⟨by show i + 1 ≤ n; omega, xy.set (Nat.le_refl _) _, set_get ky, by show (us.set _ _).length = _; rw [List.length_set]; exact ul, ?_, ?_⟩ (by show n - (i + 1) < n - i; omega)
        · intro w hw
          rcases List.mem_or_eq_of_mem_set hw with h9 | h9
          · exact ur w h9
          · rw [h9]; exact hrng
        · refine ⟨q1 + q2 * lefts bs n (s ||| 2 ^ i), ?_⟩
          show (us.set (s ||| 2 ^ i) _).getD s 0 * (lefts bs n s - rsum (i + 1) fun i => if rdyS bs s i = true then lefts bs n (s ||| 2 ^ i) else 0) + phi bs n (us.set (s ||| 2 ^ i) _) (s + 1) (2 ^ n - s - 1) = _
          have g1 : (us.set (s ||| 2 ^ i) (IntKind.wrap .i64 (us.getD (s ||| 2 ^ i) 0 + us.getD s 0))).getD s 0 = us.getD s 0 := by
            simp only [List.getD_eq_getElem?_getD]
            rw [List.getElem?_set_ne (by omega)]
          rw [g1, phi_set bs n us (s + 1) _ (by omega) (by omega) (2 ^ n - s - 1) (by omega)]
          simp only [rsum]
          rw [if_pos hr, hq2]
          generalize us.getD s 0 = a at *
          generalize us.getD (s ||| 2 ^ i) 0 = b at *
          generalize lefts bs n (s ||| 2 ^ i) = l at *
          generalize phi bs n us (s + 1) (2 ^ n - s - 1) = f at *
          generalize (rsum i fun i => if rdyS bs s i = true then lefts bs n (s ||| 2 ^ i) else 0) = r at *
          generalize lefts bs n s = z at *
          generalize M64 = m at *
          have e1 : b + a + q2 * m - b = a + q2 * m := by omega
          rw [e1, Int.add_mul, Int.add_mul]
          have e2 : a * (z - (r + l)) = a * (z - r) - a * l := by
            rw [← Int.mul_sub]
            congr 1
            omega
          have e3 : q2 * m * l = q2 * l * m := by rw [Int.mul_assoc, Int.mul_comm m l, Int.mul_assoc]
          rw [e2, e3]
          omega
      · have hr' : rdyS bs s i = false := by simpa using hr
        simp only [q18z26, bin_add, OP_some, inc i (by omega), true_and]
        refine hL2 (i + 1, us, hy) ⟨by show i + 1 ≤ n; omega, xy, ky, ul, ur, q1, ?_⟩ (by show n - (i + 1) < n - i; omega)
        show us.getD s 0 * (lefts bs n s - rsum (i + 1) fun i => if rdyS bs s i = true then lefts bs n (s ||| 2 ^ i) else 0) + _ = _
        simp only [rsum]
        rw [if_neg (by rw [hr']; simp), Int.add_zero]
        exact hq1
    · have hie : i = n := by omega
      subst hie
      simp only [q18z27, bin_add, OP_some, inc s (by omega), true_and]
      refine hL (s + 1, us, hy) ⟨by show s + 1 ≤ 2 ^ i; omega, xy, ky, ul, ur, fun hs1 => ⟨q1, ?_⟩, fun hs1 => ⟨q1, ?_⟩⟩ (by show 2 ^ i - (s + 1) < 2 ^ i - s; omega)
      · have hs1' : s + 1 < 2 ^ i := hs1
        have hsf : s < fullS i := by unfold fullS; omega
        rw [← lefts_rec bs i hsf] at hq1
        show phi bs i us (s + 1) (2 ^ i - (s + 1)) = _
        rw [show 2 ^ i - (s + 1) = 2 ^ i - s - 1 by omega]
        rw [Int.sub_self, Int.mul_zero, Int.zero_add] at hq1
        exact hq1
      · have hs1' : s + 1 = 2 ^ i := hs1
        have hsf : s = fullS i := by unfold fullS; omega
        show us.getD (allS i) 0 = _
        have hno : ∀ k, k ≤ i → (rsum k fun k => if rdyS bs s k = true then lefts bs i (s ||| 2 ^ k) else 0) = 0 := by
          intro k hk2
          induction k with
          | zero => rfl
          | succ k ih =>
            have : rdyS bs s k = false := by
              unfold rdyS
              rw [hsf, ← full_eq, allS_bit, decide_eq_true (by omega)]; rfl
            simp only [rsum, ih (by omega), this]
            simp
        rw [hno i (Nat.le_refl _), hsf, lefts_full, show 2 ^ i - fullS i - 1 = 0 by omega] at hq1
        simp only [phi, Int.sub_zero, Int.mul_one, Int.add_zero] at hq1
        exact hq1
  · have hse : s = 2 ^ n := by omega
    obtain ⟨q, hq⟩ := ph2 hse
    rw [q18z28]
    refine C24 hplx (by omega) ?_
    rw [hn]
    have hwr : -9223372036854775808 ≤ ws.getD (allS n) 0 ∧ ws.getD (allS n) 0 < 9223372036854775808 := by
      have hal : allS n < ws.length := by omega
      have : ws.getD (allS n) 0 = ws[allS n] := by simp [List.getD_eq_getElem?_getD, hal]
      rw [this]; exact wr _ (List.getElem_mem hal)
    have hval : ws.getD (allS n) 0 = lefts bs n 0 := by
      unfold M64 at hq
      omega
    have es : iSlSl 3 1 (sl 3 g.length 0 (2 ^ n)) (some (U (allS n))) none = some (.slice (some ⟨g.length, allS n, some 3⟩) 1 1) := by
      have h9 : allS n ≤ 2 ^ n := by omega
      have h8 : 2 ^ n - allS n = 1 := by omega
      simp [iSlSl, sl, iBounds, natOf, h9, h8]
    simp only [es, OP_some]
    refine C33 (m := lefts bs n 0) ?_ ?_
    · have hal : allS n < ws.length := by omega
      rw [← hval]
      simp [iLoad, objCells, kx, iPart, List.getD_eq_getElem?_getD, hal]
    · exact hfin hx xx

end Go.Proofs.Ytelmdbpaoifmoaa

/-
  The memo of least costs.
-/
namespace Go.Proofs.Ytelmdbpaoifmoaa
open Go.Sim

theorem PL.monoC {h h' : Heap} {p : Value} {js : List (Int × Int)} {bs : List Nat} (x : CX h h') (q : PL h p js bs) : PL h' p js bs :=
  let ⟨i, vj, vb, a, b, c, d⟩ := q; ⟨i, vj, vb, a, x _ _ b, c.monoC x, NS.monoC x d⟩

theorem findI_setI (k : Int) (v : Value) (k' : Int) : ∀ es : List (Int × Value), findI k' (setI k v es) = if k' = k then some v else findI k' es
  | [] => by simp [setI, findI]
  | (k1, v1) :: es => by
    simp only [setI]
    by_cases h : k = k1
    · subst h
      simp only [if_true, findI]
      by_cases h2 : k' = k <;> simp [h2]
    · rw [if_neg h]
      simp only [findI, findI_setI k v k' es]
      by_cases h2 : k' = k1
      · subst h2
        rw [if_pos rfl, if_pos rfl, if_neg (fun h3 => h h3.symm)]
      · rw [if_neg h2, if_neg h2]

section
variable (js : List (Int × Int)) (bs : List Nat) (n : Nat)

/-- What the map holds: least costs, and of each set in it all that come next. -/
structure MapOK (es : List (Int × Value)) : Prop where
  val : ∀ s v, findI s es = some v → ∃ t : Nat, s = t ∧ t < 2 ^ n ∧ v = I (minS bs js n t)
  full : (findI (fullS n : Nat) es).isSome = true
  next : ∀ s : Nat, s < fullS n → (findI (s : Int) es).isSome = true → ∀ i, i < n → rdyS bs s i = true → (findI ((s ||| 2 ^ i : Nat) : Int) es).isSome = true

def KeyM (es es' : List (Int × Value)) : Prop := ∀ k, (findI k es).isSome = true → (findI k es').isSome = true
end

theorem KeyM.refl (es : List (Int × Value)) : KeyM es es := fun _ h => h
theorem KeyM.trans {a b c : List (Int × Value)} (h : KeyM a b) (k : KeyM b c) : KeyM a c := fun x hx => k x (h x hx)

theorem MapOK.look {js : List (Int × Int)} {bs : List Nat} {n : Nat} {es : List (Int × Value)} (m : MapOK js bs n es) {s : Nat} (h : (findI (s : Int) es).isSome = true) : findI (s : Int) es = some (I (minS bs js n s)) := by
  obtain ⟨v, hv⟩ := Option.isSome_iff_exists.1 h
  obtain ⟨t, h1, _, h2⟩ := m.val _ _ hv
  have : s = t := by omega
  subst this
  rw [hv, h2]

theorem lookI {g : Heap} {im : Nat} {es : List (Int × Value)} (hg : g[im]? = some (.imap .u16 es)) (s : Nat) : iLookupI .u16 true (.int .i64 0) g (.map (some im)) (U s) = some (.tuple #[(findI (s : Int) es).getD (I 0), B (findI (s : Int) es).isSome]) := by
  simp [iLookupI, hg]
theorem lookI' {g : Heap} {im : Nat} {es : List (Int × Value)} (hg : g[im]? = some (.imap .u16 es)) (s : Nat) : iLookupI .u16 false (.int .i64 0) g (.map (some im)) (U s) = some ((findI (s : Int) es).getD (I 0)) := by
  simp [iLookupI, hg]
theorem updI {g : Heap} {im : Nat} {es : List (Int × Value)} (hg : g[im]? = some (.imap .u16 es)) (s : Nat) (v : Value) : oMupdI .u16 g (.map (some im)) (U s) v = some (undef, g.set im (.imap .u16 (setI s v es))) := by
  simp [oMupdI, iMupdI, hg]

theorem ok35 : callOk Try.prog 35 = true := by kernel_rfl

/-- What the closure finds in memory. -/
structure EnvC (im ox px cx : Nat) (p : Value) (js : List (Int × Int)) (bs : List Nat) (h : Heap) : Prop where
  o : objCells h ox = some [.map (some im)]
  q : objCells h px = some [p]
  c : objCells h cx = some [.func (.func 35) #[] #[pt ox 0, pt px 0, pt cx 0]]
  pl : PL h p js bs

theorem EnvC.mono {im ox px cx : Nat} {p : Value} {js : List (Int × Int)} {bs : List Nat} {h h' : Heap} (k : CX h h') (e : EnvC im ox px cx p js bs h) : EnvC im ox px cx p js bs h' :=
  ⟨k _ _ e.o, k _ _ e.q, k _ _ e.c, e.pl.monoC k⟩

theorem C35 {im ox px cx : Nat} {p : Value} {js : List (Int × Int)} {bs : List Nat} {n : Nat} (hn : js.length = n) (hn10 : n ≤ 10) (hsm : smallJ js) (hbl : bs.length = n) (hb : ∀ b ∈ bs, b < 2 ^ n) (hu : acyc bs n) :
    ∀ (f s : Nat), fullS n - s ≤ f → s < 2 ^ n → ∀ {h : Heap} {es : List (Int × Value)} {K : Value → Heap → Prop}, EnvC im ox px cx p js bs h → h[im]? = some (.imap .u16 es) → MapOK js bs n es →
    (∀ h' es', XM im h h' → h'[im]? = some (.imap .u16 es') → MapOK js bs n es' → KeyM es es' → (findI (s : Int) es').isSome = true → K (I (minS bs js n s)) h') →
    CallP Try.prog 35 [U s, pt ox 0, pt px 0, pt cx 0] h K := by
  have h2n : (2 : Nat) ^ n ≤ 2 ^ 10 := Nat.pow_le_pow_right (by decide) hn10
  have hb1024 : ∀ b ∈ bs, b < 1024 := fun b h => Nat.lt_of_lt_of_le (hb b h) h2n
  have hsF : smallF js := hsm.all
  intro f
  induction f with
  | zero =>
    intro s hf hs h es K env hm ok hk
    have hse : s = fullS n := by unfold fullS at *; omega
    have hfs := ok.full
    rw [← hse] at hfs
    refine f35 ?_
    simp only [T35, load_cell env.o, OP_some, lookI hm, ok.look hfs, ext_tuple, pair0, pair1, Option.getD_some, Option.isSome_some, IfP_true]
    exact hk h es (XM.refl _ _) hm ok (KeyM.refl _) hfs
  | succ f ih =>
    intro s hf hs h es K env hm ok hk
    refine f35 ?_
    simp only [T35, load_cell env.o, OP_some, lookI hm, ext_tuple, pair0, pair1]
    refine IfP_of (fun hin => ?_) fun hout => ?_
    · rw [ok.look hin, Option.getD_some]
      exact hk h es (XM.refl _ _) hm ok (KeyM.refl _) hin
    · have hsf : s < fullS n := by
        rcases Nat.lt_or_ge s (fullS n) with h1 | h1
        · exact h1
        · have : s = fullS n := by unfold fullS at *; omega
          rw [this, ok.full] at hout
          cases hout
      simp only [load_cell env.q, OP_some]
      refine C25 env.pl hsm (by omega) (by rw [hn]; exact hs) ?_
      intro g xg
      have x0 : XM im h g := XM.ex xg
      have hmg := xg.get hm
      have envg := env.mono (x0.cx hm)
      obtain ⟨a, vj, vb, rfl, hc, hjs, hbs⟩ := envg.pl
      have ldj : iLoad false 1 g (pt a 0) = some vj := by simp [iLoad, hc, iPart]
      have hnow : sumJ js (listS s 10) = nowS js s := by
        have : ∀ m, listS s m = listS' s m := by
          intro m
          induction m with
          | zero => rfl
          | succ m ih => simp only [listS, listS', ih]
        unfold sumJ nowS
        rw [this]; rfl
      simp only [load_cell envg.q, OP_some, nilck_pt, fadr_pt, Nat.add_zero, ldj, hjs.len, hn, hnow]
      have hnb := now_bound hsF s
      refine loopL (σ := Nat × List (Int × Value) × Heap) (fun q => [I (bstep bs js s (fun i => minS bs js n (s ||| 2 ^ i)) q.1), I q.1]) (fun q => q.2.2)
        (fun q => q.1 ≤ n ∧ XM im g q.2.2 ∧ q.2.2[im]? = some (.imap .u16 q.2.1) ∧ MapOK js bs n q.2.1 ∧ KeyM es q.2.1 ∧ ∀ i, i < q.1 → rdyS bs s i = true → (findI ((s ||| 2 ^ i : Nat) : Int) q.2.1).isSome = true) (fun q => n - q.1)
        (0, es, g) rfl rfl ⟨Nat.zero_le _, XM.refl _ _, hmg, ok, KeyM.refl _, fun i hi => by omega⟩ ?_
      rintro ⟨i, es1, g1⟩ ⟨hi, x1, hm1, ok1, km1, hnx⟩ L hL
      simp only at hi x1 hm1 ok1 km1 hnx hL ⊢
      have env1 := envg.mono (x1.cx hmg)
      rw [q35z11]
      simp only [bin_lss, OP_some, IfP_dec]
      refine ⟨fun hlt => ?_, fun hge => ?_⟩
      · have hin : i < n := by omega
        have hjL : i < js.length := by omega
        have hjs1 := hjs.monoC (x1.cx hmg)
        obtain ⟨b, o, r1, r2, r3, r4⟩ := PS.getD hjs1 hjL
        have e30 : ∀ g : Heap, iAlloc 35 [(.int .i64 (0)), (.int .i64 (0))] g = some (pt g.length 0, g ++ [.arr 35 [I 0, I 0]]) := fun _ => rfl
        have st2 : ∀ (g : Heap) (t : TypeId) (a b : Int), oStore 2 (g ++ [.arr t [I 0, I 0]]) (pt g.length 0) (.agg #[I a, I b]) = some (undef, g ++ [.arr t [I a, I b]]) := by
          intro g t a b
          simp [oStore, iStore, noTuple, vcells, Value.cells, setAt]
        simp only [r1, OP_some]
        rw [r4]
        simp only [OP_some, e30, OH_some, st2]
        have l0 : iLoad false 1 (g1 ++ [IObj.arr 35 [I (js.getD i (0, 0)).1, I (js.getD i (0, 0)).2]]) (pt g1.length 0) = some (I (js.getD i (0, 0)).1) := load_last rfl
        have l1 : iLoad false 1 (g1 ++ [IObj.arr 35 [I (js.getD i (0, 0)).1, I (js.getD i (0, 0)).2]]) (pt g1.length 1) = some (I (js.getD i (0, 0)).2) := load_last rfl
        have xp : EX g1 (g1 ++ [IObj.arr 35 [I (js.getD i (0, 0)).1, I (js.getD i (0, 0)).2]]) := EX.append _ _
        have hll : (js.getD i (0, 0)).1 = lenJ js i := rfl
        have hww : (js.getD i (0, 0)).2 = weiJ js i := rfl
        rw [hll, hww] at l0 l1 xp ⊢
        generalize hg2 : g1 ++ [IObj.arr 35 [I (lenJ js i), I (weiJ js i)]] = g2 at l0 l1 xp ⊢
        have x2 : XM im g g2 := x1.trans (XM.ex xp)
        have hm2 := xp.get hm1
        have env2 := envg.mono (x2.cx hmg)
        simp only [load_cell env2.q, OP_some]
        refine C26 env2.pl (by omega) (by omega) (by omega) hb1024 ?_
        rw [rdy_eq]
        simp only [un_not, OP_some]
        cases hr : rdyS bs s i with
        | false =>
          simp only [Bool.not_false, IfP_true]
          rw [q35z25]
          simp only [bin_add, OP_some, inc i (by omega), true_and]
          have hbs : bstep bs js s (fun i => minS bs js n (s ||| 2 ^ i)) (i + 1) = bstep bs js s (fun i => minS bs js n (s ||| 2 ^ i)) i := by
            simp [bstep, hr]
          have := hL (i + 1, es1, g2) ⟨by show i + 1 ≤ n; omega, x2, hm2, ok1, km1, fun j hj hrj => by
            by_cases hji : j = i
            · subst hji; rw [hr] at hrj; cases hrj
            · exact hnx j (by show j < i; simp only at hj; omega) hrj⟩ (by show n - (i + 1) < n - i; omega)
          simp only [hbs] at this
          exact this
        | true =>
          have hp2 : (2 : Nat) ^ i < 1024 := Nat.lt_of_lt_of_le (Nat.pow_lt_pow_right (by decide) (show i < 10 by omega)) (by decide)
          have hlw := hsF i
          have hcb := c_bound hsF s i
          have hw1 : IntKind.wrap .i64 (nowS js s + lenJ js i) = nowS js s + lenJ js i := wrap64 (by omega) (by omega)
          have hw2 : IntKind.wrap .i64 (weiJ js i * (nowS js s + lenJ js i)) = weiJ js i * (nowS js s + lenJ js i) := wrap64 (by omega) (by omega)
          have hlt2 := or_lt hs hin
          have hgt := lt_or_pow (rdyS_bit hr)
          simp only [Bool.not_true, IfP_false, fadr_pt, Nat.add_zero, Nat.zero_add, l0, l1, OP_some, bin_add, hw1, bin_mul, hw2, load_cell env2.c, shlK skU (show i < 11 by omega), orK skU (show s < 1024 by omega) hp2, true_and]
          refine callVP_fn ok35 ?_
          refine ih (s ||| 2 ^ i) (by unfold fullS at *; omega) hlt2 env2 hm2 ok1 ?_
          intro g3 es3 x3 hm3 ok3 km3 hin3
          have cx3 := x3.cx hm2
          have l0' := cx3.load l0
          have l1' := cx3.load l1
          have hmb := minS_bound hsF hn10 hu hlt2
          have hw3 : IntKind.wrap .i64 (weiJ js i * (nowS js s + lenJ js i) + minS bs js n (s ||| 2 ^ i)) = weiJ js i * (nowS js s + lenJ js i) + minS bs js n (s ||| 2 ^ i) := wrap64 (by omega) (by omega)
          simp only [l0', l1', true_and, bin_add, OP_some, hw3, bin_lss]
          have go : ∀ bst : Int, bstep bs js s (fun i => minS bs js n (s ||| 2 ^ i)) (i + 1) = bst → p35z25 Try.prog K (U s) (pt ox 0) (pt px 0) (pt cx 0) (I bst) (I (nowS js s)) vj (I n) (I i) L g3 := by
            intro bst hbst
            rw [q35z25]
            simp only [bin_add, OP_some, inc i (by omega), true_and]
            have := hL (i + 1, es3, g3) ⟨by show i + 1 ≤ n; omega, x2.trans x3, hm3, ok3, km1.trans km3, fun j hj hrj => by
              by_cases hji : j = i
              · subst hji; exact hin3
              · exact km3 _ (hnx j (by show j < i; simp only at hj; omega) hrj)⟩ (by show n - (i + 1) < n - i; omega)
            simp only [hbst] at this
            exact this
          rw [q35z22]
          by_cases hneg : bstep bs js s (fun i => minS bs js n (s ||| 2 ^ i)) i < 0
          · rw [decide_eq_true hneg]
            simp only [GdP_tf, q35z24, iPick_t, OP_some, IfP_true]
            exact go _ (by simp only [bstep, hr, if_true]; rw [if_pos (.inl hneg)])
          · rw [decide_eq_false hneg]
            simp only [GdP_ff, bin_lss, OP_some, q35z24, iPick_f, IfP_dec]
            refine ⟨fun hl => go _ ?_, fun hl => go _ ?_⟩
            · simp only [bstep, hr, if_true]; rw [if_pos (.inr hl)]
            · simp only [bstep, hr, if_true]; rw [if_neg (fun h9 => h9.elim hneg hl)]
      · have hie : i = n := by omega
        subst hie
        rw [q35z26]
        simp only [load_cell env1.o, OP_some, updI hm1, OH_some, ← minS_rec bs js i hsf]
        refine hk _ (setI (s : Int) (I (minS bs js i s)) es1) (x0.trans (x1.set _)) (set_get hm1) ⟨?_, ?_, ?_⟩ ?_ ?_
        · intro s' v' hv
          rw [findI_setI] at hv
          by_cases he : s' = s
          · rw [if_pos he] at hv
            injection hv with hv
            exact ⟨s, he, hs, hv.symm⟩
          · rw [if_neg he] at hv
            exact ok1.val _ _ hv
        · rw [findI_setI]
          split
          · rfl
          · exact ok1.full
        · intro s' hs' hin' j hj hrj
          rw [findI_setI] at hin' ⊢
          split
          · rfl
          · by_cases he : s' = s
            · subst he; exact hnx j hj hrj
            · rw [if_neg (by omega)] at hin'
              exact ok1.next s' hs' hin' j hj hrj
        · intro k hk2
          rw [findI_setI]
          split
          · rfl
          · exact km1 k hk2
        · rw [findI_setI, if_pos rfl]; rfl

end Go.Proofs.Ytelmdbpaoifmoaa

/-
  The best order: the first one of those that cost the least.
-/
namespace Go.Proofs.Ytelmdbpaoifmoaa
open Go.Sim

theorem C23 {p : Value} {js : List (Int × Int)} {bs : List Nat} {n : Nat} {h : Heap} {K : Value → Heap → Prop} (hp : PL h p js bs) (hn : js.length = n) (hn10 : n ≤ 10) (hsm : smallJ js) (hbl : bs.length = n) (hb : ∀ b ∈ bs, b < 2 ^ n) (hu : acyc bs n)
    (hk : ∀ im es h', EX h h' → h'[im]? = some (.imap .u16 es) → MapOK js bs n es → (findI ((0 : Nat) : Int) es).isSome = true → K (.map (some im)) h') : CallP Try.prog 23 [p] h K := by
  have hpt : ∃ i, p = pt i 0 := let ⟨i, _, _, e, _⟩ := hp; ⟨i, e⟩
  obtain ⟨i, rfl⟩ := hpt
  refine f23 ?_
  have bx : iBox 57 h (pt i 0) = some (pt h.length 0, h ++ [.arr 57 [pt i 0]]) := rfl
  have mk : ∀ g : Heap, iMkMapI .u16 g = some (.map (some g.length), g ++ [.imap .u16 []]) := fun _ => rfl
  simp only [T23, bx, OH_some, mk]
  have k0 : (h ++ [IObj.arr 57 [pt i 0]] ++ [.imap .u16 []])[h.length]? = some (.arr 57 [pt i 0]) := by simp
  have k1 : (h ++ [IObj.arr 57 [pt i 0]] ++ [.imap .u16 []])[h.length + 1]? = some (.imap .u16 []) := by simp
  have x1 : EX h (h ++ [IObj.arr 57 [pt i 0]] ++ [.imap .u16 []]) := (EX.append _ _).push _
  have e1 : (h ++ [IObj.arr 57 [pt i 0]]).length = h.length + 1 := by simp
  have e2 : (h ++ [IObj.arr 57 [pt i 0]] ++ [IObj.imap .u16 []]).length = h.length + 2 := by simp
  rw [e1]
  generalize h ++ [IObj.arr 57 [pt i 0]] ++ [.imap .u16 []] = g at k0 k1 x1 e2 ⊢
  have c0 : objCells g h.length = some [pt i 0] := by simp [objCells, k0]
  simp only [load_cell c0, OP_some]
  refine C24 (hp.mono x1) (by omega) ?_
  rw [hn, full_eq]
  have hup : oMupdI .u16 g (.map (some (h.length + 1))) (U (fullS n)) (.int .i64 0) = some (undef, g.set (h.length + 1) (.imap .u16 [((fullS n : Nat), I 0)])) := updI k1 _ _
  simp only [hup, OH_some]
  have y2 : EX h (g.set (h.length + 1) (.imap .u16 [(((fullS n : Nat) : Int), I 0)])) := x1.set (by omega) _
  have m0 : (g.set (h.length + 1) (.imap .u16 [(((fullS n : Nat) : Int), I 0)]))[h.length]? = some (.arr 57 [pt i 0]) := by rw [List.getElem?_set_ne (by omega)]; exact k0
  have m1 : (g.set (h.length + 1) (.imap .u16 [(((fullS n : Nat) : Int), I 0)]))[h.length + 1]? = some (.imap .u16 [(((fullS n : Nat) : Int), I 0)]) := set_get k1
  have ml : (g.set (h.length + 1) (.imap .u16 [(((fullS n : Nat) : Int), I 0)])).length = h.length + 2 := by rw [List.length_set]; exact e2
  generalize g.set (h.length + 1) (.imap .u16 [(((fullS n : Nat) : Int), I 0)]) = g2 at y2 m0 m1 ml ⊢
  have a72 : ∀ g : Heap, iAlloc 60 [(.map none)] g = some (pt g.length 0, g ++ [.arr 60 [.map none]]) := fun _ => rfl
  have a74 : ∀ g : Heap, iAlloc 65 [.nilFunc] g = some (pt g.length 0, g ++ [.arr 65 [.nilFunc]]) := fun _ => rfl
  have s72 : oStore 1 (g2 ++ [IObj.arr 60 [.map none]]) (pt (h.length + 2) 0) (.map (some (h.length + 1))) = some (undef, g2 ++ [.arr 60 [.map (some (h.length + 1))]]) := by
    rw [← ml]; simp [oStore, iStore, noTuple, vcells, Value.cells, setAt]
  simp only [a72, OH_some, ml, s72, a74, List.length_append, List.length_cons, List.length_nil, Nat.zero_add]
  have s74 : ∀ v : Value, noTuple v = true → vcells v = [v] → oStore 1 (g2 ++ [IObj.arr 60 [.map (some (h.length + 1))]] ++ [.arr 65 [.nilFunc]]) (pt (h.length + 2 + 1) 0) v = some (undef, g2 ++ [IObj.arr 60 [.map (some (h.length + 1))]] ++ [.arr 65 [v]]) := by
    intro v h1 h2
    have hl : (g2 ++ [IObj.arr 60 [.map (some (h.length + 1))]] ++ [.arr 65 [.nilFunc]])[h.length + 2 + 1]? = some (.arr 65 [.nilFunc]) := by
      have : h.length + 2 + 1 = (g2 ++ [IObj.arr 60 [.map (some (h.length + 1))]]).length := by simp [ml]
      rw [this]; simp
    rw [store_at hl (by simp) h1 h2]
    have : h.length + 2 + 1 = (g2 ++ [IObj.arr 60 [.map (some (h.length + 1))]]).length := by simp [ml]
    rw [this]
    simp
  rw [s74 _ rfl rfl]
  simp only [OH_some]
  have xx : EX g2 (g2 ++ [IObj.arr 60 [.map (some (h.length + 1))]] ++ [.arr 65 [.func (.func 35) #[] #[pt (h.length + 2) 0, pt h.length 0, pt (h.length + 2 + 1) 0]]]) := (EX.append _ _).push _
  have n2 : (g2 ++ [IObj.arr 60 [.map (some (h.length + 1))]] ++ [.arr 65 [.func (.func 35) #[] #[pt (h.length + 2) 0, pt h.length 0, pt (h.length + 2 + 1) 0]]])[h.length + 2]? = some (.arr 60 [.map (some (h.length + 1))]) := by
    rw [← ml]; simp
  have n3 : (g2 ++ [IObj.arr 60 [.map (some (h.length + 1))]] ++ [.arr 65 [.func (.func 35) #[] #[pt (h.length + 2) 0, pt h.length 0, pt (h.length + 2 + 1) 0]]])[h.length + 2 + 1]? = some (.arr 65 [.func (.func 35) #[] #[pt (h.length + 2) 0, pt h.length 0, pt (h.length + 2 + 1) 0]]) := by
    have : h.length + 2 + 1 = (g2 ++ [IObj.arr 60 [.map (some (h.length + 1))]]).length := by simp [ml]
    rw [List.getElem?_append_right (by omega), this]
    simp
  generalize g2 ++ [IObj.arr 60 [.map (some (h.length + 1))]] ++ [.arr 65 [.func (.func 35) #[] #[pt (h.length + 2) 0, pt h.length 0, pt (h.length + 2 + 1) 0]]] = g3 at xx n2 n3 ⊢
  have env : EnvC (h.length + 1) (h.length + 2) h.length (h.length + 2 + 1) (pt i 0) js bs g3 := by
    refine ⟨?_, ?_, ?_, hp.mono (y2.trans xx)⟩
    · simp [objCells, n2]
    · simp [objCells, xx.get m0]
    · simp [objCells, n3]
  simp only [load_cell env.c, OP_some]
  refine callVP_fn ok35 ?_
  have hpos : 0 < 2 ^ n := Nat.pow_pos (by decide)
  refine C35 hn hn10 hsm hbl hb hu (fullS n) 0 (by omega) hpos env (xx.get m1) ⟨?_, ?_, ?_⟩ ?_
  · intro s v hv
    simp only [findI] at hv
    split at hv
    · rename_i he
      injection hv with hv
      exact ⟨fullS n, he, by unfold fullS; omega, by rw [minS_full]; exact hv.symm⟩
    · cases hv
  · simp [findI]
  · intro s hs hin
    simp only [findI] at hin
    rw [if_neg (by omega)] at hin
    cases hin
  · intro h' es' x3 hm3 ok3 _ hin3
    have env3 := env.mono (x3.cx (xx.get m1))
    simp only [load_cell env3.o, OP_some]
    refine hk _ es' h' ?_ hm3 ok3 hin3
    refine ⟨Nat.le_trans (y2.trans xx).1 x3.1, fun d hd => ?_⟩
    rw [x3.2 d (Nat.lt_of_lt_of_le hd (y2.trans xx).1) (by omega)]
    exact (y2.trans xx).2 d hd

theorem endF_now {bs : List Nat} {n : Nat} (js : List (Int × Int)) (hn : n ≤ 10) : ∀ {l : List Nat} {s : Nat}, okO bs n s l = true → endF js (nowS js s) l = nowS js (stO s l)
  | [], s, _ => rfl
  | i :: l, s, h => by
    simp only [okO, Bool.and_eq_true, decide_eq_true_eq] at h
    simp only [endF, stO]
    rw [← now_step js (show i < 10 by omega) (rdyS_bit h.1.2)]
    exact endF_now js hn h.2

theorem lenJ_ones {i : Nat} (hi : i < 10) : lenJ (List.replicate 10 (1, 0)) i = 1 := by
  unfold lenJ
  rw [List.getD_eq_getElem?_getD, List.getElem?_replicate, if_pos hi]; rfl

theorem endF_ones : ∀ (l : List Nat) (x : Int), (∀ i ∈ l, i < 10) → endF (List.replicate 10 (1, 0)) x l = x + l.length
  | [], x, _ => by simp [endF]
  | i :: l, x, hx => by
    have hi : i < 10 := hx i (by simp)
    have e := lenJ_ones hi
    simp only [endF, e, endF_ones l _ fun j hj => hx j (by simp [hj]), List.length_cons]
    omega

theorem ok_len10 {bs : List Nat} {n : Nat} (hn : n ≤ 10) {l : List Nat} (h : okO bs n 0 l = true) : l.length ≤ 10 := by
  have h1 := endF_now (List.replicate 10 (1, 0)) hn h
  rw [now_zero, endF_ones l 0 fun i hi => Nat.lt_of_lt_of_le (okO_lt h i hi) hn] at h1
  have h7 : ∀ (s m : Nat), sumL (listS' s m) (lenJ (List.replicate 10 (1, 0))) ≤ m := by
    intro s m
    induction m with
    | zero => simp [listS', sumL]
    | succ m ih =>
      have : lenJ (List.replicate 10 (1, 0)) m ≤ 1 := by
        by_cases hm : m < 10
        · rw [lenJ_ones hm]; omega
        · simp only [lenJ, List.getD_eq_getElem?_getD]
          rw [List.getElem?_eq_none (by simp; omega)]
          simp
      simp only [listS']
      split
      · simp only [sumL_append, sumL]; omega
      · omega
  have := h7 (stO 0 l) 10
  unfold nowS at h1
  omega

theorem ok_length {bs : List Nat} {n : Nat} (hn : n ≤ 10) {l : List Nat} (h : okO bs n 0 l = true) (hf : stO 0 l = fullS n) : l.length = n := by
  have h1 := endF_now (List.replicate 10 (1, 0)) hn h
  rw [hf, now_zero] at h1
  rw [endF_ones l 0 fun i hi => Nat.lt_of_lt_of_le (okO_lt h i hi) hn] at h1
  have h3 : ∀ n, n ≤ 10 → nowS (List.replicate 10 (1, 0)) (fullS n) = n := by
    intro n hn
    match n, hn with
    | 0, _ => decide
    | 1, _ => decide
    | 2, _ => decide
    | 3, _ => decide
    | 4, _ => decide
    | 5, _ => decide
    | 6, _ => decide
    | 7, _ => decide
    | 8, _ => decide
    | 9, _ => decide
    | 10, _ => decide
    | n + 11, h => omega
  rw [h3 n hn] at h1
  omega

theorem OwnS.ns {b : Nat} {g : Heap} {v : Value} {l : List Nat} (o : OwnS b g 3 v (l.map fun i : Nat => I i)) (hl : l.length ≤ 1000) : NS g v .i64 (l.map fun i : Nat => (i : Int)) := by
  rcases o with ⟨h1, h2⟩ | ⟨a, _, h2, h3⟩
  · have : l = [] := by simpa using h2
    rw [this, h1]
    exact NS.nil g .i64
  · rw [h2, List.length_map]
    have := NS.sl (h := g) (e := 3) (i := a) (k := .i64) (ns := l.map fun i : Nat => (i : Int)) (.inr (by simp [objCells, h3])) (by simp [maxLen]; omega)
    rw [List.length_map] at this
    exact this

/-- The best order: the first one of the least cost. -/
theorem C11 {vj vp : Value} {js ps : List (Int × Int)} {h : Heap} {K : Value → Heap → Prop} (hj : PS h vj js) (hp : PS h vp ps) (hjl : js.length ≤ 1000) (hpl0 : ps.length ≤ 1000)
    (hk0 : validB js ps = false → ∀ h', EX h h' → K (.tuple #[.slice none 0 0, I 0, I 1]) h')
    (hk : Vd js ps js.length (bsOf ps js.length) → validB js ps = true → ∀ v h' l, EX h h' → NS h' v .i64 (l.map fun i : Nat => (i : Int)) → GrP (bsOf ps js.length) js js.length 0 l → l.length = js.length → K (.tuple #[v, I (costF js 0 l), I 0]) h') : CallP Try.prog 11 [vj, vp] h K := by
  refine f11 (C22v hj hp hjl hpl0 (fun hv p g xg => ?_) (fun vd hv p g xg hpl => ?_))
  · simp only [ext_tuple, pair0, pair1, OP_some, un_not, Bool.not_false, IfP_true]
    exact hk0 hv g xg
  have hk := hk vd hv
  have hbs := vd.is
  have h10 := vd.n10
  have h1 := vd.n1
  have hu := vd.ac
  have hsm := vd.small
  clear vd
  generalize bsOf ps js.length = bs at *
  generalize hn : js.length = n at *
  have hbl := hbs.len
  have hsF : smallF js := hsm.all
  have h2n : (2 : Nat) ^ n ≤ 2 ^ 10 := Nat.pow_le_pow_right (by decide) h10
  have hb1024 : ∀ b ∈ bs, b < 1024 := fun b hb => Nat.lt_of_lt_of_le (hbs.lt b hb) h2n
  have hpos : 0 < 2 ^ n := Nat.pow_pos (by decide)
  simp only [ext_tuple, pair0, pair1, OP_some, un_not, Bool.not_true, IfP_false]
  refine C23 hpl hn h10 hsm hbl hbs.lt hu ?_
  intro im es g2 xg2 hm ok hin0
  have hjg := hj.mono (xg.trans xg2)
  refine loopL (σ := List Nat × Value × Heap) (fun q => [q.2.1, U (stO 0 q.1)]) (fun q => q.2.2)
    (fun q => EX g2 q.2.2 ∧ OwnS g2.length q.2.2 3 q.2.1 (q.1.map fun i : Nat => I i) ∧ okO bs n 0 q.1 = true ∧ (findI ((stO 0 q.1 : Nat) : Int) es).isSome = true ∧ costF js 0 q.1 + minS bs js n (stO 0 q.1) = minS bs js n 0 ∧ ∀ r, GrP bs js n (stO 0 q.1) r → GrP bs js n 0 (q.1 ++ r)) (fun q => 2 ^ n - stO 0 q.1)
    ([], .slice none 0 0, g2) rfl rfl ⟨EX.refl _, .inl ⟨rfl, rfl⟩, rfl, hin0, by simp [costF, stO], fun r hr => hr⟩ ?_
  rintro ⟨l, v, g3⟩ ⟨x3, own, hok, hin, hcost, hgr⟩ L hL
  simp only at x3 own hok hin hcost hgr hL ⊢
  have hs : stO 0 l < 2 ^ n := stO_lt hpos (okO_lt hok)
  have hpl3 := (hpl.mono xg2).mono x3
  have hm3 := x3.get hm
  have hend := endF_now js h10 hok
  rw [now_zero] at hend
  rw [q11z11]
  refine C24 hpl3 (by omega) ?_
  rw [hn, full_eq]
  have hbr := minS_bound hsF h10 hu hpos
  simp only [bin_neq, OP_some]
  refine IfP_of (fun hne => ?_) fun heq => ?_
  · have hne : ¬ stO 0 l = fullS n := by
      intro he
      rw [he] at hne
      simp at hne
    have hsf : stO 0 l < fullS n := by unfold fullS at *; omega
    refine C25 hpl3 hsm (by omega) (by rw [hn]; exact hs) ?_
    intro g4 xg4
    have hnow : sumJ js (listS (stO 0 l) 10) = nowS js (stO 0 l) := by
      have : ∀ s m, listS s m = listS' s m := by
        intro s m
        induction m with
        | zero => rfl
        | succ m ih => simp only [listS, listS', ih]
      unfold sumJ nowS
      rw [this]; rfl
    rw [hnow]
    have hspec := minS_spec hsF h10 hu hsf
    generalize hsd : stO 0 l = s at *
    have hnb := now_bound hsF s
    simp only [hjg.len, OP_some, hn]
    refine loopL (σ := Nat × Heap) (fun q => [v, U s, I q.1]) (fun q => q.2) (fun q => q.1 ≤ n ∧ EX g4 q.2 ∧ ∀ i, i < q.1 → ¬ (rdyS bs s i = true ∧ weiJ js i * (nowS js s + lenJ js i) + minS bs js n (s ||| 2 ^ i) = minS bs js n s)) (fun q => n - q.1) (0, g4) rfl rfl ⟨Nat.zero_le _, EX.refl _, fun i hi => by omega⟩ ?_
    rintro ⟨i, g5⟩ ⟨hi, x5, hno⟩ L2 hL2
    simp only at hi x5 hno hL2 ⊢
    have x35 := xg4.trans x5
    have hpl5 := hpl3.mono x35
    rw [q11z18]
    simp only [bin_lss, OP_some, IfP_dec]
    refine ⟨fun hlt => ?_, fun hge => ?_⟩
    · have hin2 : i < n := by omega
      obtain ⟨b, o, r1, r2, r3, r4⟩ := PS.getD (hjg.mono (x3.trans x35)) (show i < js.length by omega)
      have e30 : ∀ g : Heap, iAlloc 35 [(.int .i64 (0)), (.int .i64 (0))] g = some (pt g.length 0, g ++ [.arr 35 [I 0, I 0]]) := fun _ => rfl
      have st2 : ∀ (g : Heap) (t : TypeId) (a b : Int), oStore 2 (g ++ [.arr t [I 0, I 0]]) (pt g.length 0) (.agg #[I a, I b]) = some (undef, g ++ [.arr t [I a, I b]]) := by
        intro g t a b
        simp [oStore, iStore, noTuple, vcells, Value.cells, setAt]
      simp only [r1, r4, OP_some, e30, OH_some, st2]
      have l0 : iLoad false 1 (g5 ++ [IObj.arr 35 [I (js.getD i (0, 0)).1, I (js.getD i (0, 0)).2]]) (pt g5.length 0) = some (I (js.getD i (0, 0)).1) := load_last rfl
      have l1 : iLoad false 1 (g5 ++ [IObj.arr 35 [I (js.getD i (0, 0)).1, I (js.getD i (0, 0)).2]]) (pt g5.length 1) = some (I (js.getD i (0, 0)).2) := load_last rfl
      have xp : EX g5 (g5 ++ [IObj.arr 35 [I (js.getD i (0, 0)).1, I (js.getD i (0, 0)).2]]) := EX.append _ _
      have hll : (js.getD i (0, 0)).1 = lenJ js i := rfl
      have hww : (js.getD i (0, 0)).2 = weiJ js i := rfl
      rw [hll, hww] at l0 l1 xp ⊢
      generalize g5 ++ [IObj.arr 35 [I (lenJ js i), I (weiJ js i)]] = g6 at l0 l1 xp ⊢
      have hm6 := (x35.trans xp).get hm3
      refine C26 (hpl5.mono xp) (by omega) (by omega) (by omega) hb1024 ?_
      rw [rdy_eq]
      have skip : (¬ (rdyS bs s i = true ∧ weiJ js i * (nowS js s + lenJ js i) + minS bs js n (s ||| 2 ^ i) = minS bs js n s)) → (OP (iBin .add (I i) (.int .i64 (1))) fun x71 =>
          ([vj, p, .map (some im), I (nowS js s), vj, I n] : List Value) = [vj, p, .map (some im), I (nowS js s), vj, I n] ∧ L2 [v, U s, x71] g6) := by
        intro hneg
        simp only [bin_add, OP_some, inc i (by omega), true_and]
        exact hL2 (i + 1, g6) ⟨by show i + 1 ≤ n; omega, x5.trans xp, fun j hj => by
          by_cases hji : j = i
          · subst hji; exact hneg
          · exact hno j (by show j < i; simp only at hj; omega)⟩ (by show n - (i + 1) < n - i; omega)
      cases hr : rdyS bs s i with
      | false =>
        simp only [GdP_ft, iPick_f, OP_some, IfP_false, true_and]
        have := skip (by rw [hr]; rintro ⟨h9, _⟩; cases h9)
        simp only [bin_add, OP_some, true_and] at this ⊢
        exact this
      | true =>
        have hp2 : (2 : Nat) ^ i < 1024 := Nat.lt_of_lt_of_le (Nat.pow_lt_pow_right (by decide) (show i < 10 by omega)) (by decide)
        have hlw := hsF i
        have hcb := c_bound hsF s i
        have hlt2 := or_lt hs hin2
        have hmb := minS_bound hsF h10 hu hlt2
        have hw1 : IntKind.wrap .i64 (nowS js s + lenJ js i) = nowS js s + lenJ js i := wrap64 (by omega) (by omega)
        have hw2 : IntKind.wrap .i64 (weiJ js i * (nowS js s + lenJ js i)) = weiJ js i * (nowS js s + lenJ js i) := wrap64 (by omega) (by omega)
        have hw3 : IntKind.wrap .i64 (weiJ js i * (nowS js s + lenJ js i) + minS bs js n (s ||| 2 ^ i)) = weiJ js i * (nowS js s + lenJ js i) + minS bs js n (s ||| 2 ^ i) := wrap64 (by omega) (by omega)
        have hinx := ok.next s hsf hin i hin2 hr
        simp only [GdP_tt, fadr_pt, Nat.add_zero, Nat.zero_add, l0, l1, OP_some, bin_add, hw1, bin_mul, hw2, shlK skU (show i < 11 by omega), orK skU (show s < 1024 by omega) hp2, lookI' hm6, ok.look hin, ok.look hinx, Option.getD_some, hw3, bin_eql, iPick_t, true_and]
        refine IfP_of (fun he => ?_) fun hne2 => ?_
        · have he : weiJ js i * (nowS js s + lenJ js i) + minS bs js n (s ||| 2 ^ i) = minS bs js n s := of_decide_eq_true he
          have hok2 : okO bs n 0 (l ++ [i]) = true := by
            rw [okO_append, hok, hsd]
            simp [okO, hin2, hr]
          have hs2 : stO 0 (l ++ [i]) = s ||| 2 ^ i := by
            rw [stO_append, hsd]; rfl
          have hll : l.length ≤ 10 := ok_len10 h10 hok
          refine app1 (h0 := g2) (xs := l.map fun i : Nat => I i) (OwnS.keep own fun d m hv hd => ?_) (x3.trans (x35.trans xp)) (by simp; omega) (by simp [maxLen]; omega) rfl rfl ?_
          · obtain ⟨_, q2, _⟩ := own.lt hv
            exact (x35.trans xp).2 d q2
          · intro v' g7 x7 own7
            have hce := costF_append js 0 l [i]
            have e1 : costF js (endF js 0 l) [i] = weiJ js i * (nowS js s + lenJ js i) := by
              rw [hend]; simp [costF]
            have := hL (l ++ [i], v', g7) ⟨x7, by simpa using own7, hok2, by show (findI ((stO 0 (l ++ [i]) : Nat) : Int) es).isSome = true; rw [hs2]; exact hinx, by
              show costF js 0 (l ++ [i]) + minS bs js n (stO 0 (l ++ [i])) = minS bs js n 0
              rw [hs2, hce, e1]; omega, by
              show ∀ r, GrP bs js n (stO 0 (l ++ [i])) r → GrP bs js n 0 (l ++ [i] ++ r)
              rw [hs2]
              intro r hr2
              have := hgr (i :: r) ⟨⟨⟨hin2, hr⟩, he, hno⟩, hr2⟩
              simpa using this⟩ (by
              show 2 ^ n - stO 0 (l ++ [i]) < 2 ^ n - s
              rw [hs2]
              have := lt_or_pow (rdyS_bit hr)
              omega)
            simp only [hs2] at this
            exact this
        · have h9 := skip fun h9 => (of_decide_eq_false hne2) h9.2
          simp only [bin_add, OP_some, true_and] at h9 ⊢
          exact h9
    · exfalso
      have hie : i = n := by omega
      subst hie
      obtain ⟨⟨j, j1, j2, j3⟩, _⟩ := hspec
      exact hno j j1 ⟨j2, j3.symm⟩
  · have he : stO 0 l = fullS n := by
      have h9 : ¬ ¬ ((stO 0 l : Nat) : Int) = ((fullS n : Nat) : Int) := by
        intro h9
        simp [h9] at heq
      have := Classical.not_not.1 h9
      omega
    have hlen := ok_length h10 hok he
    rw [q11z26]
    have z : (.int .u16 0 : Value) = U 0 := rfl
    rw [z]
    simp only [lookI' hm3, ok.look hin0, Option.getD_some, OP_some, true_and]
    rw [he, minS_full] at hcost
    have hc : costF js 0 l = minS bs js n 0 := by omega
    rw [← hc]
    have hg := hgr [] he
    rw [List.append_nil] at hg
    exact hk v g3 l (xg.trans (xg2.trans x3)) (OwnS.ns own (by omega)) hg hlen

end Go.Proofs.Ytelmdbpaoifmoaa
