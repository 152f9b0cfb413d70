/-
  Sets of jobs, and what is ready, as the program holds them.
-/
import Derived.Test.YtipeennffbbglaaCtU
import Derived.Test.YtipeennffbbglaaShM
import Derived.Test.YtipeennffbbglaaMgs
import Derived.Test.YtipeennffbbglaaMg10
import Derived.Test.YtipeennffbbglaaMg3
import Derived.Test.YtipeennffbbglaaMg5
import Derived.Test.YtipeennffbbglaaMg4
import Derived.Test.YtipeennffbbglaaShL
namespace Go.Proofs.Ytipeennffbbglaa
open Go.Sim

abbrev U (s : Nat) : Value := .int .u16 (s : Int)
theorem skU : SK .u16 := .inl rfl
theorem skI : SK .i64 := .inr rfl

theorem set_get {h : Heap} {i : Nat} {o o' : IObj} (hg : h[i]? = some o') : (h.set i o)[i]? = some o := by
  rw [List.getElem?_set_self (List.getElem?_eq_some_iff.1 hg).1]

/-- A plan: jobs, and of each one those that must be done before it. -/
def PL (h : Heap) (p : Value) (js : List (Int × Int)) (bs : List Nat) : Prop := ∃ i vj vb, p = pt i 0 ∧ objCells h i = some [vj, vb] ∧ PS h vj js ∧ NS h vb .u16 (bs.map fun b : Nat => (b : Int))

theorem PL.mono {h h' : Heap} {p : Value} {js : List (Int × Int)} {bs : List Nat} (x : EX h h') (q : PL h p js bs) : PL h' p js bs :=
  let ⟨i, vj, vb, a, b, c, d⟩ := q; ⟨i, vj, vb, a, x.cells b, c.mono x, d.mono x⟩

def allS (n : Nat) : Nat := 2 ^ n - 1

theorem C33 {s i : Nat} {h : Heap} {K : Value → Heap → Prop} (hi : i < 16) (hs : s < 1024) (hk : K (B (s.testBit i)) h) : CallP Try.prog 33 [U s, I i] h K := by
  refine f33 ?_
  have hd : s / 2 ^ i < 1024 := Nat.lt_of_le_of_lt (Nat.div_le_self _ _) hs
  have ha := andK skU hd (show 1 < 1024 by decide)
  have ha' : iBin .and (.int .u16 ((s / 2 ^ i : Nat) : Int)) (.int .u16 1) = some (.int .u16 ((s / 2 ^ i &&& 1 : Nat) : Int)) := ha
  simp only [T33, shrK skU hi, OP_some, ha', bin_eql]
  have e : decide (((s / 2 ^ i &&& 1 : Nat) : Int) = 1) = s.testBit i := by
    rw [Nat.testBit_eq_decide_div_mod_eq, bit_and]
    by_cases h1 : s / 2 ^ i % 2 = 1
    · rw [decide_eq_true h1, decide_eq_true (by omega)]
    · rw [decide_eq_false h1, decide_eq_false (by omega)]
  rw [e]
  exact hk

theorem C22 {p : Value} {js : List (Int × Int)} {bs : List Nat} {h : Heap} {K : Value → Heap → Prop} (hp : PL h p js bs) (hl : js.length ≤ 10) (hk : K (U (allS js.length)) h) : CallP Try.prog 22 [p] h K := by
  obtain ⟨i, vj, vb, rfl, hc, hj, hb⟩ := hp
  refine f22 ?_
  have ld : iLoad false 1 h (pt i 0) = some vj := by simp [iLoad, hc, iPart]
  have e1 : (1 : Nat) ≤ 2 ^ js.length := Nat.pow_pos (by decide)
  have e2 : (2 : Nat) ^ js.length ≤ 2 ^ 10 := Nat.pow_le_pow_right (by decide) hl
  simp only [T22, nilck_pt, OP_some, fadr_pt, Nat.add_zero, ld, hj.len, shlK skU (show js.length < 11 by omega), bin_sub]
  rw [skU.wrap (by omega) (by omega)]
  have : ((2 ^ js.length : Nat) : Int) - 1 = ((allS js.length : Nat) : Int) := by unfold allS; omega
  rw [this]
  exact hk

/-- A job can be done after those of a set. -/
def rdy (bs : List Nat) (s i : Nat) : Bool := !s.testBit i && subB (bs.getD i 0) s

theorem NS.getU {h : Heap} {v : Value} {bs : List Nat} (p : NS h v .u16 (bs.map fun b : Nat => (b : Int))) {i : Nat} (hi : i < bs.length) : ∃ b o, iAdrSl 1 v (I i) = some (pt b o) ∧ iLoad false 1 h (pt b o) = some (U (bs.getD i 0)) := by
  obtain ⟨b, o, g1, g2⟩ := p.get i (by simpa using hi)
  refine ⟨b, o, g1, ?_⟩
  rw [g2]
  simp [List.getD_eq_getElem?_getD, hi]

theorem C23 {p : Value} {js : List (Int × Int)} {bs : List Nat} {s i : Nat} {h : Heap} {K : Value → Heap → Prop} (hp : PL h p js bs) (hi : i < bs.length) (hl : bs.length ≤ 10) (hs : s < 1024) (hb : ∀ b ∈ bs, b < 1024) (hk : K (B (rdy bs s i)) h) :
    CallP Try.prog 23 [p, U s, I i] h K := by
  obtain ⟨a, vj, vb, rfl, hc, hj, hbs⟩ := hp
  refine f23 (C33 (by omega) hs ?_)
  have ld : iLoad false 1 h (pt a 1) = some vb := by simp [iLoad, hc, iPart]
  unfold rdy at hk
  simp only [un_not, OP_some]
  cases ht : s.testBit i with
  | true =>
    rw [ht] at hk
    simp only [Bool.not_true, q23z4, GdP_ft, q23z6, iPick_f, OP_some]
    exact hk
  | false =>
    rw [ht] at hk
    obtain ⟨b, o, g1, g2⟩ := NS.getU hbs hi
    have hbi : bs.getD i 0 < 1024 := by
      have : bs.getD i 0 = bs[i] := by simp [List.getD_eq_getElem?_getD, hi]
      rw [this]; exact hb _ (List.getElem_mem hi)
    obtain ⟨r, r1, r2⟩ := andNotK skU hbi hs
    simp only [Bool.not_false, q23z4, GdP_tt, nilck_pt, OP_some, fadr_pt, Nat.zero_add, ld, g1, g2, r1, bin_eql, q23z6, iPick_t]
    have e : decide ((r : Int) = 0) = subB (bs.getD i 0) s := by
      cases hq : subB (bs.getD i 0) s with
      | true => exact decide_eq_true (by have := r2.2 hq; omega)
      | false => exact decide_eq_false (by intro h0; have := r2.1 (by omega); rw [hq] at this; cases this)
    rw [e]
    simpa using hk

/-- The jobs of a set. -/
def listS (s : Nat) : Nat → List Nat
  | 0 => []
  | i + 1 => if s.testBit i = true then listS s i ++ [i] else listS s i

theorem listS_len (s : Nat) : ∀ n, (listS s n).length ≤ n
  | 0 => Nat.le_refl _
  | n + 1 => by have := listS_len s n; simp only [listS]; split <;> simp <;> omega

theorem listS_lt (s : Nat) : ∀ (n i : Nat), i ∈ listS s n → i < n ∧ s.testBit i = true
  | 0, i, h => by simp [listS] at h
  | n + 1, i, h => by
    simp only [listS] at h
    split at h
    · rename_i ht
      rcases List.mem_append.1 h with h | h
      · have := listS_lt s n i h; exact ⟨by omega, this.2⟩
      · have : i = n := by simpa using h
        subst this; exact ⟨by omega, ht⟩
    · have := listS_lt s n i h; exact ⟨by omega, this.2⟩

theorem C35 {s : Nat} {h : Heap} {K : Value → Heap → Prop} (hs : s < 1024) (hk : ∀ v h', EX h h' → NS h' v .i64 ((listS s 10).map fun i : Nat => (i : Int)) → K v h') : CallP Try.prog 35 [U s] h K := by
  refine f35 ?_
  unfold T35
  refine loopL (σ := Nat × Value × Heap) (fun p => [p.2.1, I p.1]) (fun p => p.2.2) (fun p => p.1 ≤ 10 ∧ EX h p.2.2 ∧ OwnS h.length p.2.2 3 p.2.1 ((listS s p.1).map fun i : Nat => I i)) (fun p => 10 - p.1)
    (0, .slice none 0 0, h) rfl rfl ⟨Nat.zero_le _, EX.refl _, .inl ⟨rfl, rfl⟩⟩ ?_
  rintro ⟨i, v, g⟩ ⟨hi, xg, hown⟩ L hL
  simp only at hi xg hown hL ⊢
  have hll := listS_len s i
  rw [q35z6]
  simp only [bin_lss, OP_some, IfP_dec]
  refine ⟨fun hlt => ?_, fun hge => ?_⟩
  · refine C33 (by omega) hs ?_
    refine IfP_of (fun ht => ?_) fun ht => ?_
    · refine app1 hown xg (by simp; omega) (by simp [maxLen]; omega) rfl rfl ?_
      intro v' g' xg' ho'
      simp only [q35z13, bin_add, OP_some, inc i (by omega), true_and]
      refine hL (i + 1, v', g') ⟨by show i + 1 ≤ 10; omega, xg', ?_⟩ (by show 10 - (i + 1) < 10 - i; omega)
      show OwnS h.length g' 3 v' ((listS s (i + 1)).map fun i : Nat => I i)
      simp only [listS, ht, if_true, List.map_append, List.map_cons, List.map_nil]
      exact ho'
    · simp only [q35z13, bin_add, OP_some, inc i (by omega), true_and]
      refine hL (i + 1, v, g) ⟨by show i + 1 ≤ 10; omega, xg, ?_⟩ (by show 10 - (i + 1) < 10 - i; omega)
      show OwnS h.length g 3 v ((listS s (i + 1)).map fun i : Nat => I i)
      simp only [listS, ht, Bool.false_eq_true, if_false]
      exact hown
  · have hie : i = 10 := by omega
    subst hie
    rw [q35z14]
    refine hk v g xg ?_
    rcases hown with ⟨h1, h2⟩ | ⟨a, _, h2, h3⟩
    · have : listS s 10 = [] := by simpa using h2
      rw [this, h1]
      exact NS.nil g .i64
    · rw [h2, List.length_map]
      have := NS.sl (h := g) (e := 3) (i := a) (k := .i64) (ns := (listS s 10).map fun i : Nat => (i : Int)) (.inr (by simp [objCells, h3])) (by simp [maxLen]; omega)
      rw [List.length_map] at this
      exact this

def sumJ (js : List (Int × Int)) (l : List Nat) : Int := sumL l fun i => (js.getD i (0, 0)).1

theorem sumL_take' {α : Type} (f : α → Int) (l : List α) {j : Nat} (hj : j < l.length) : sumL (l.take (j + 1)) f = sumL (l.take j) f + f l[j] := by
  rw [List.take_succ_eq_append_getElem hj, sumL_append]
  simp [sumL]

theorem PS.getD {h : Heap} {v : Value} {js : List (Int × Int)} (p : PS h v js) {i : Nat} (hi : i < js.length) : ∃ b o, iAdrSl 2 v (I i) = some (pt b o) ∧ iLoad false 1 h (pt b o) = some (I (js.getD i (0, 0)).1) ∧ iLoad false 1 h (pt b (o + 1)) = some (I (js.getD i (0, 0)).2) ∧
    iLoad true 2 h (pt b o) = some (.agg #[I (js.getD i (0, 0)).1, I (js.getD i (0, 0)).2]) := by
  obtain ⟨b, o, g1, g2, g3, g4⟩ := p.get i hi
  have e : js.getD i (0, 0) = js[i] := by simp [List.getD_eq_getElem?_getD, hi]
  rw [e]
  exact ⟨b, o, g1, g2, g3, g4⟩

/-- All lengths and weights are small. -/
def smallJ (js : List (Int × Int)) : Prop := ∀ j ∈ js, (1 ≤ j.1 ∧ j.1 ≤ 50) ∧ 0 ≤ j.2 ∧ j.2 ≤ 50

theorem smallJ.getD {js : List (Int × Int)} (h : smallJ js) {i : Nat} (hi : i < js.length) : (1 ≤ (js.getD i (0, 0)).1 ∧ (js.getD i (0, 0)).1 ≤ 50) ∧ 0 ≤ (js.getD i (0, 0)).2 ∧ (js.getD i (0, 0)).2 ≤ 50 := by
  have e : js.getD i (0, 0) = js[i] := by simp [List.getD_eq_getElem?_getD, hi]
  rw [e]; exact h _ (List.getElem_mem hi)

theorem sumJ_bound {js : List (Int × Int)} (h : smallJ js) : ∀ l : List Nat, (∀ i ∈ l, i < js.length) → 0 ≤ sumJ js l ∧ sumJ js l ≤ 50 * l.length
  | [], _ => by simp [sumJ, sumL]
  | i :: l, hl => by
    have ih := sumJ_bound h l fun x hx => hl x (by simp [hx])
    have := h.getD (hl i (by simp))
    unfold sumJ at ih ⊢
    simp only [sumL, List.length_cons]
    omega

theorem C26 {p : Value} {js : List (Int × Int)} {bs : List Nat} {s : Nat} {h : Heap} {K : Value → Heap → Prop} (hp : PL h p js bs) (hj : smallJ js) (hl : js.length ≤ 10) (hs : s < 2 ^ js.length) (hk : ∀ h', EX h h' → K (I (sumJ js (listS s 10))) h') : CallP Try.prog 26 [p, U s] h K := by
  have h1024 : (2 : Nat) ^ js.length ≤ 2 ^ 10 := Nat.pow_le_pow_right (by decide) hl
  refine f26 (C35 (by omega) ?_)
  intro v g xg hn
  obtain ⟨a, vj, vb, rfl, hc, hjs, hbs⟩ := hp.mono xg
  have hlt : ∀ i ∈ listS s 10, i < js.length := by
    intro i hi
    have h1 := (listS_lt s 10 i hi).2
    apply Classical.byContradiction
    intro hge
    have : s < 2 ^ i := Nat.lt_of_lt_of_le hs (Nat.pow_le_pow_right (by decide) (by omega))
    rw [Nat.testBit_lt_two_pow this] at h1
    cases h1
  have hll := listS_len s 10
  have lenN : iLenSl v = some (I (listS s 10).length) := by have := hn.len; rwa [List.length_map] at this
  simp only [lenN, OP_some]
  refine loopL (σ := Nat) (fun i => [I (sumJ js ((listS s 10).take i)), I i]) (fun _ => g) (fun i => i ≤ (listS s 10).length) (fun i => (listS s 10).length - i) 0 rfl rfl (Nat.zero_le _) ?_
  intro i hi L hL
  rw [q26z6]
  simp only [bin_lss, OP_some, IfP_dec]
  refine ⟨fun hlt2 => ?_, fun hge => ?_⟩
  · have hil : i < (listS s 10).length := by omega
    obtain ⟨b, o, g1, g2⟩ := hn.get i (by simpa using hil)
    have e : ((listS s 10).map fun i : Nat => (i : Int))[i]'(by simpa using hil) = ((listS s 10)[i] : Int) := by simp
    rw [e] at g2
    have hm := hlt _ (List.getElem_mem hil)
    obtain ⟨c, q, r1, r2, r3, r4⟩ := PS.getD hjs hm
    have ld : iLoad false 1 g (pt a 0) = some vj := by simp [iLoad, hc, iPart]
    have hst : sumJ js ((listS s 10).take (i + 1)) = sumJ js ((listS s 10).take i) + (js.getD (listS s 10)[i] (0, 0)).1 := by
      exact sumL_take' _ _ hil
    have hb1 := sumJ_bound hj ((listS s 10).take (i + 1)) fun x hx => hlt x (List.mem_of_mem_take hx)
    rw [List.length_take, hst] at hb1
    simp only [g1, g2, OP_some, nilck_pt, fadr_pt, Nat.add_zero, ld, r1, r2, bin_add, inc i (by omega)]
    rw [wrap64 (by omega) (by omega), ← hst]
    simp only [true_and]
    exact hL (i + 1) (by omega) (by omega)
  · have hie : i = (listS s 10).length := by omega
    subst hie
    rw [List.take_length, q26z12]
    exact hk g xg

end Go.Proofs.Ytipeennffbbglaa

/-
  Jobs and pairs are read: pairs that go from a lower to a higher number.
-/
namespace Go.Proofs.Ytipeennffbbglaa
open Go.Sim

theorem slice_of_len {v x : Value} (h : iLenSl v = some x) : noTuple v = true ∧ vcells v = [v] := by
  unfold iLenSl at h
  split at h
  · exact ⟨rfl, rfl⟩
  · cases h

/-- What must be done before each job. -/
structure BS (ps : List (Int × Int)) (n : Nat) (bs : List Nat) : Prop where
  len : bs.length = n
  lt : ∀ b ∈ bs, b < 2 ^ n
  bit : ∀ i, i < n → ∀ j : Nat, (bs.getD i 0).testBit j = decide (((j : Int), (i : Int)) ∈ ps)

/-- Pairs that go up. -/
def upP (n : Nat) (ps : List (Int × Int)) : Prop := ∀ p ∈ ps, 0 ≤ p.1 ∧ p.1 < p.2 ∧ p.2 < n

theorem BS.getD_lt {ps : List (Int × Int)} {n : Nat} {bs : List Nat} (b : BS ps n bs) (i : Nat) : bs.getD i 0 < 2 ^ n := by
  by_cases hi : i < bs.length
  · have : bs.getD i 0 = bs[i] := by simp [List.getD_eq_getElem?_getD, hi]
    rw [this]; exact b.lt _ (List.getElem_mem hi)
  · have : bs.getD i 0 = 0 := by simp only [List.getD_eq_getElem?_getD]; rw [List.getElem?_eq_none (by omega)]; rfl
    rw [this]; exact Nat.pow_pos (by decide)

theorem allS_bit (n j : Nat) : (allS n).testBit j = decide (j < n) := Nat.testBit_two_pow_sub_one n j

theorem allS_step (i : Nat) : allS i ||| 2 ^ i = allS (i + 1) := by
  apply Nat.eq_of_testBit_eq
  intro j
  rw [testBit_or_pow, allS_bit, allS_bit]
  by_cases h : i = j
  · subst h; simp
  · have : decide (j < i) = decide (j < i + 1) := by
      rw [decide_eq_decide]; omega
    simp [h, this]

theorem allS_lt {n : Nat} (h : n ≤ 10) : allS n < 1024 := by
  have e1 : (1 : Nat) ≤ 2 ^ n := Nat.pow_pos (by decide)
  have e2 : (2 : Nat) ^ n ≤ 2 ^ 10 := Nat.pow_le_pow_right (by decide) h
  unfold allS
  omega

theorem C21 {vj vp : Value} {js ps : List (Int × Int)} {h : Heap} {K : Value → Heap → Prop} (hj : PS h vj js) (hp : PS h vp ps) (h1 : 1 ≤ js.length) (h10 : js.length ≤ 10) (h40 : ps.length ≤ 40) (hsm : smallJ js) (hup : upP js.length ps)
    (hk : ∀ p h' bs, EX h h' → PL h' p js bs → BS ps js.length bs → K (.tuple #[p, B true]) h') : CallP Try.prog 21 [vj, vp] h K := by
  refine f21 ?_
  simp only [T21, hj.len, OP_some, bin_lss, decide_eq_false (show ¬ (js.length : Int) < 1 by omega), q21z6, GdP_ff, bin_gtr, decide_eq_false (show ¬ (10 : Int) < (js.length : Int) by omega), q21z8, iPick_f, q21z10, hp.len, decide_eq_false (show ¬ (40 : Int) < (ps.length : Int) by omega), q21z12, IfP_false]
  generalize hn : js.length = n at *
  have h2n : (2 : Nat) ^ n ≤ 2 ^ 10 := Nat.pow_le_pow_right (by decide) h10
  have hz : ∀ m, zrep [Value.int .u16 0] m = (List.replicate m 0).map fun b : Nat => U b := by
    intro m
    induction m with
    | zero => rfl
    | succ m ih =>
      have : zrep [Value.int .u16 0] (m + 1) = Value.int .u16 0 :: zrep [Value.int .u16 0] m := by simp [zrep, List.replicate_succ]
      rw [this, ih, List.replicate_succ]; rfl
  have mk : iMake 68 2 [.int .u16 0] h (I n) (I n) = some (sl 68 h.length 0 n, h ++ [.arr 68 ((List.replicate n 0).map fun b : Nat => U b)]) := by
    simp only [iMake]
    rw [if_pos ⟨by omega, by omega, by omega, by omega⟩, Int.toNat_natCast, hz]
  obtain ⟨t1, t2⟩ := slice_of_len hj.len
  have bd : iBuild [(.slice none 0 0), (.slice none 0 0)] [(0, 1, vj), (1, 1, sl 68 h.length 0 n)] = some (.agg #[vj, sl 68 h.length 0 n]) := by
    have s1 : noTuple (sl 68 h.length 0 n) = true := rfl
    have s2 : vcells (sl 68 h.length 0 n) = [sl 68 h.length 0 n] := rfl
    simp [iBuild, fillL, t1, t2, s1, s2, setAt]
  have bx : ∀ g : Heap, iBox 86 g (.agg #[vj, sl 68 h.length 0 n]) = some (pt g.length 0, g ++ [.arr 86 [vj, sl 68 h.length 0 n]]) := fun _ => rfl
  simp only [mk, OH_some, bd, OP_some, bx, List.length_append, List.length_cons, List.length_nil, Nat.zero_add]
  have k0 : (h ++ [IObj.arr 68 ((List.replicate n 0).map fun b : Nat => U b)] ++ [IObj.arr 86 [vj, sl 68 h.length 0 n]])[h.length]? = some (.arr 68 ((List.replicate n 0).map fun b : Nat => U b)) := by simp
  have k1 : (h ++ [IObj.arr 68 ((List.replicate n 0).map fun b : Nat => U b)] ++ [IObj.arr 86 [vj, sl 68 h.length 0 n]])[h.length + 1]? = some (.arr 86 [vj, sl 68 h.length 0 n]) := by simp
  have x1 : EX h (h ++ [IObj.arr 68 ((List.replicate n 0).map fun b : Nat => U b)] ++ [IObj.arr 86 [vj, sl 68 h.length 0 n]]) := (EX.append _ _).push _
  generalize h ++ [IObj.arr 68 ((List.replicate n 0).map fun b : Nat => U b)] ++ [IObj.arr 86 [vj, sl 68 h.length 0 n]] = hA at k0 k1 x1 ⊢
  have e30 : ∀ g : Heap, iAlloc 30 [(.int .i64 (0)), (.int .i64 (0))] g = some (pt g.length 0, g ++ [.arr 30 [I 0, I 0]]) := fun _ => rfl
  have e26 : ∀ g : Heap, iAlloc 26 [(.int .i64 (0)), (.int .i64 (0))] g = some (pt g.length 0, g ++ [.arr 26 [I 0, I 0]]) := fun _ => rfl
  have st2 : ∀ (g : Heap) (t : TypeId) (a b : Int), oStore 2 (g ++ [.arr t [I 0, I 0]]) (pt g.length 0) (.agg #[I a, I b]) = some (undef, g ++ [.arr t [I a, I b]]) := by
    intro g t a b
    simp [oStore, iStore, noTuple, vcells, Value.cells, setAt]
  have hjA := hj.mono x1
  have lenJ : iLenSl vj = some (I n) := by rw [hj.len, hn]
  -- the jobs
  refine loopL (σ := Nat × Heap) (fun p => [I p.1]) (fun p => p.2) (fun p => p.1 ≤ n ∧ EX hA p.2) (fun p => n - p.1) (0, hA) rfl rfl ⟨Nat.zero_le _, EX.refl _⟩ ?_
  rintro ⟨i, g⟩ ⟨hi, xg⟩ L hL
  simp only at hi xg hL ⊢
  rw [q21z18]
  simp only [bin_lss, OP_some, IfP_dec]
  refine ⟨fun hlt => ?_, fun hge => ?_⟩
  · have hin : i < js.length := by omega
    obtain ⟨b, o, g1, g2, g3, g4⟩ := PS.getD (hjA.mono xg) hin
    obtain ⟨⟨s1, s2⟩, s3, s4⟩ := hsm.getD hin
    simp only [g1, g4, OP_some, e30, OH_some, st2]
    have l0 : iLoad false 1 (g ++ [IObj.arr 30 [I (js.getD i (0, 0)).1, I (js.getD i (0, 0)).2]]) (pt g.length 0) = some (I (js.getD i (0, 0)).1) := load_last rfl
    have l1 : iLoad false 1 (g ++ [IObj.arr 30 [I (js.getD i (0, 0)).1, I (js.getD i (0, 0)).2]]) (pt g.length 1) = some (I (js.getD i (0, 0)).2) := load_last rfl
    generalize js.getD i (0, 0) = jb at *
    simp only [fadr_pt, Nat.add_zero, Nat.zero_add, l0, OP_some, bin_lss, decide_eq_false (show ¬ jb.1 < 1 by omega), q21z26, GdP_ff, bin_gtr, decide_eq_false (show ¬ (50 : Int) < jb.1 by omega), q21z28, iPick_f, q21z30, l1, decide_eq_false (show ¬ jb.2 < 0 by omega), q21z32, q21z34, decide_eq_false (show ¬ (50 : Int) < jb.2 by omega), q21z36, IfP_false, bin_add, inc i (by omega), true_and]
    exact hL (i + 1, _) ⟨by show i + 1 ≤ n; omega, xg.push _⟩ (by show n - (i + 1) < n - i; omega)
  · rw [q21z38]
    have kg0 := xg.get k0
    have kg1 := xg.get k1
    have xhg := x1.trans xg
    simp only [(hp.mono xhg).len, OP_some]
    -- the pairs
    refine loopL (σ := Nat × List Nat × Heap) (fun p => [I p.1]) (fun p => p.2.2) (fun p => p.1 ≤ ps.length ∧ EX h p.2.2 ∧ p.2.2[h.length]? = some (.arr 68 (p.2.1.map fun b : Nat => U b)) ∧ p.2.2[h.length + 1]? = some (.arr 86 [vj, sl 68 h.length 0 n]) ∧ BS (ps.take p.1) n p.2.1) (fun p => ps.length - p.1)
      (0, List.replicate n 0, g) rfl rfl ⟨Nat.zero_le _, xhg, kg0, kg1, by simp, fun b hb => by rw [(List.mem_replicate.1 hb).2]; exact Nat.pow_pos (by decide), fun i hi j => by simp [List.getD_eq_getElem?_getD, hi]⟩ ?_
    rintro ⟨m, bs, g2⟩ ⟨hm, xg2, q0, q1, hbs⟩ L2 hL2
    simp only at hm xg2 q0 q1 hbs hL2 ⊢
    rw [q21z42]
    simp only [bin_lss, OP_some, IfP_dec]
    refine ⟨fun hlt => ?_, fun hge2 => ?_⟩
    · have hmp : m < ps.length := by omega
      obtain ⟨b, o, g1, g3, g4, g5⟩ := (hp.mono xg2).get m hmp
      have hpu := hup _ (List.getElem_mem hmp)
      have htk : ps.take (m + 1) = ps.take m ++ [ps[m]] := List.take_succ_eq_append_getElem hmp
      generalize ps[m] = pr at g3 g4 g5 hpu htk
      obtain ⟨pa, pb⟩ := pr
      obtain ⟨a, rfl⟩ : ∃ a : Nat, pa = a := ⟨pa.toNat, by simp only at hpu; omega⟩
      obtain ⟨c, rfl⟩ : ∃ c : Nat, pb = c := ⟨pb.toNat, by simp only at hpu; omega⟩
      simp only at hpu g5
      have hac : a < c ∧ c < n := by omega
      simp only [g1, g5, OP_some, e26, OH_some, st2]
      have l0 : iLoad false 1 (g2 ++ [IObj.arr 26 [I (a : Int), I (c : Int)]]) (pt g2.length 0) = some (I a) := load_last rfl
      have l1 : iLoad false 1 (g2 ++ [IObj.arr 26 [I (a : Int), I (c : Int)]]) (pt g2.length 1) = some (I c) := load_last rfl
      have y : EX g2 (g2 ++ [IObj.arr 26 [I (a : Int), I (c : Int)]]) := EX.append _ _
      generalize g2 ++ [IObj.arr 26 [I (a : Int), I (c : Int)]] = g6 at l0 l1 y ⊢
      have r0 := y.get q0
      have r1 := y.get q1
      have ldb : iLoad false 1 g6 (pt (h.length + 1) 1) = some (sl 68 h.length 0 n) := by simp [iLoad, objCells, r1, iPart]
      have hcb : c < bs.length := by rw [hbs.len]; omega
      have ldc : iLoad false 1 g6 (pt h.length c) = some (U (bs.getD c 0)) := by
        simp [iLoad, objCells, r0, iPart, hcb, List.getD_eq_getElem?_getD]
      have hb1 := hbs.getD_lt c
      have hp2 : (2 : Nat) ^ a < 1024 := Nat.lt_of_lt_of_le (Nat.pow_lt_pow_right (by decide) (show a < 10 by omega)) (by decide)
      have hmin : min (a : Int) (c : Int) = a := by omega
      have hmax : max (a : Int) (c : Int) = c := by omega
      simp only [fadr_pt, Nat.add_zero, Nat.zero_add, l0, l1, OP_some, min2, max2', hmin, hmax, bin_lss, decide_eq_false (show ¬ (a : Int) < 0 by omega), q21z51, GdP_ff, bin_geq, decide_eq_false (show ¬ (n : Int) ≤ (c : Int) by omega), q21z53, iPick_f, q21z55, bin_eql, decide_eq_false (show ¬ (a : Int) = (c : Int) by omega), q21z57, IfP_false, nilck_pt, ldb, true_and, adr_sl (show c < n by omega), ldc, shlK skU (show a < 11 by omega), orK skU (show bs.getD c 0 < 1024 by omega) hp2]
      rw [store_at r0 (by simpa using hcb) rfl rfl]
      simp only [OH_some, bin_add, OP_some, inc m (by omega), true_and]
      have es : ((bs.map fun b : Nat => U b).set c (U (bs.getD c 0 ||| 2 ^ a))) = (bs.set c (bs.getD c 0 ||| 2 ^ a)).map fun b : Nat => U b := by rw [List.map_set]
      rw [es]
      refine hL2 (m + 1, bs.set c (bs.getD c 0 ||| 2 ^ a), g6.set h.length (.arr 68 ((bs.set c (bs.getD c 0 ||| 2 ^ a)).map fun b : Nat => U b))) ⟨by show m + 1 ≤ ps.length; omega, (xg2.trans y).set (Nat.le_refl _) _, set_get r0, by show (g6.set _ _)[h.length + 1]? = _; rw [List.getElem?_set_ne (by omega)]; exact r1, ?_⟩ (by show ps.length - (m + 1) < ps.length - m; omega)
      show BS (ps.take (m + 1)) n (bs.set c (bs.getD c 0 ||| 2 ^ a))
      refine ⟨by rw [List.length_set]; exact hbs.len, ?_, ?_⟩
      · intro b hb
        rcases List.mem_or_eq_of_mem_set hb with h9 | h9
        · exact hbs.lt b h9
        · rw [h9]; exact or_lt hb1 (by omega)
      · intro i' hi' j
        rw [htk]
        have hgd : (bs.set c (bs.getD c 0 ||| 2 ^ a)).getD i' 0 = if c = i' then bs.getD c 0 ||| 2 ^ a else bs.getD i' 0 := by
          simp only [List.getD_eq_getElem?_getD, List.getElem?_set]
          by_cases hc : c = i'
          · subst hc; simp [hcb]
          · simp [hc]
        rw [hgd]
        have hbit := hbs.bit i' hi' j
        by_cases hc : c = i'
        · subst hc
          rw [if_pos rfl, testBit_or_pow, hbit]
          by_cases haj : a = j
          · subst haj; simp
          · have h9 : ¬ ((j : Int) = (a : Int)) := by omega
            simp [haj, h9]
        · rw [if_neg hc, hbit]
          have h9 : ¬ ((i' : Int) = (c : Int)) := by omega
          simp [h9]
    · have hme : m = ps.length := by omega
      subst hme
      rw [List.take_length] at hbs
      have hpl : PL g2 (pt (h.length + 1) 0) js bs := by
        refine ⟨h.length + 1, vj, sl 68 h.length 0 n, rfl, by simp [objCells, q1], hj.mono xg2, ?_⟩
        have e : n = (bs.map fun b : Nat => (b : Int)).length := by rw [List.length_map, hbs.len]
        rw [e]
        refine NS.sl (.inr ?_) (by rw [List.length_map, hbs.len]; unfold maxLen; omega)
        simp [objCells, q0]
      have hb1024 : ∀ b ∈ bs, b < 1024 := fun b hb => Nat.lt_of_lt_of_le (hbs.lt b hb) h2n
      have hbl := hbs.len
      rw [q21z59]
      -- all can be done
      refine loopL (σ := Nat) (fun r => [U (if r = 0 then 0 else allS n), I r]) (fun _ => g2) (fun r => r ≤ n) (fun r => n - r) 0 rfl rfl (Nat.zero_le _) ?_
      intro r hr L3 hL3
      rw [q21z64]
      simp only [bin_lss, OP_some, IfP_dec]
      refine ⟨fun hlt3 => ?_, fun hge3 => ?_⟩
      · refine loopL (σ := Nat) (fun i => [U (if r = 0 then allS i else allS n), I i]) (fun _ => g2) (fun i => i ≤ n) (fun i => n - i) 0 (by by_cases h0 : r = 0 <;> simp [h0, allS]) rfl (Nat.zero_le _) ?_
        intro i hi2 L4 hL4
        rw [q21z71]
        simp only [bin_lss, OP_some, IfP_dec]
        refine ⟨fun hlt4 => ?_, fun hge4 => ?_⟩
        · have hin : i < n := by omega
          have hai : allS i < 1024 := allS_lt (by omega)
          have han : allS n < 1024 := allS_lt (by omega)
          refine C23 hpl (by omega) (by omega) (by split <;> omega) hb1024 ?_
          by_cases h0 : r = 0
          · subst h0
            have hrd : rdy bs (allS i) i = true := by
              unfold rdy
              rw [allS_bit, decide_eq_false (by omega), Bool.not_false, Bool.true_and, subB_iff]
              intro j hj2
              rw [hbs.bit i hin j] at hj2
              have hmem : ((j : Int), (i : Int)) ∈ ps := of_decide_eq_true hj2
              have := hup _ hmem
              simp only at this
              rw [allS_bit]
              exact decide_eq_true (by omega)
            have hp2 : (2 : Nat) ^ i < 1024 := Nat.lt_of_lt_of_le (Nat.pow_lt_pow_right (by decide) (show i < 10 by omega)) (by decide)
            simp only [if_true, hrd, IfP_true, shlK skU (show i < 11 by omega), OP_some, orK skU hai hp2, allS_step, q21z78, bin_add, inc i (by omega), true_and]
            have := hL4 (i + 1) (by show i + 1 ≤ n; omega) (by show n - (i + 1) < n - i; omega)
            simpa using this
          · have hrd : rdy bs (allS n) i = false := by
              unfold rdy
              rw [allS_bit, decide_eq_true hin]; rfl
            simp only [if_neg h0, hrd, IfP_false, q21z78, bin_add, OP_some, inc i (by omega), true_and]
            have := hL4 (i + 1) (by show i + 1 ≤ n; omega) (by show n - (i + 1) < n - i; omega)
            simpa [h0] using this
        · have hie : i = n := by omega
          subst hie
          simp only [ite_self, q21z79, bin_add, OP_some, inc r (by omega), true_and]
          have := hL3 (r + 1) (by show r + 1 ≤ i; omega) (by show i - (r + 1) < i - r; omega)
          simpa using this
      · have hre : r = n := by omega
        rw [if_neg (by omega), q21z80]
        refine C22 hpl (by omega) ?_
        rw [hn]
        simp only [bin_eql, OP_some, decide_true]
        exact hk _ _ bs xg2 hpl hbs

end Go.Proofs.Ytipeennffbbglaa

/-
  How many orders there are, as a call answers.
-/
namespace Go.Proofs.Ytipeennffbbglaa
open Go.Sim

theorem rdy_eq (bs : List Nat) (s i : Nat) : rdy bs s i = rdyS bs s i := rfl
theorem full_eq (n : Nat) : allS n = fullS n := rfl

theorem C24 {id o : Nat} {m : Int} {h : Heap} {K : Value → Heap → Prop} (hl : iLoad false 1 h (pt id o) = some (I m)) (hk : K (I m) h) : CallP Try.prog 24 [.slice (some ⟨id, o, some 3⟩) 1 1] h K := by
  refine f24 ?_
  have e1 : iLenSl (.slice (some ⟨id, o, some 3⟩) 1 1) = some (I 1) := rfl
  have e2 : iAdrSl 1 (.slice (some ⟨id, o, some 3⟩) 1 1) (I 0) = some (pt id o) := by simp [iAdrSl]
  simp only [T24, e1, OP_some, bin_lss, decide_eq_false (show ¬ (1 : Int) < 1 by decide), IfP_false, q24z4, e2, hl]
  refine loopL (σ := Nat) (fun _ => [I m, I 1]) (fun _ => h) (fun _ => True) (fun _ => 0) 0 rfl rfl trivial ?_
  intro i _ L hL
  rw [q24z9]
  simp only [e1, OP_some, bin_lss, decide_eq_false (show ¬ (1 : Int) < 1 by decide), IfP_false, q24z14]
  exact hk

theorem C7 {vj vp : Value} {js ps : List (Int × Int)} {h : Heap} {K : Value → Heap → Prop} (hj : PS h vj js) (hp : PS h vp ps) (h1 : 1 ≤ js.length) (h10 : js.length ≤ 10) (h40 : ps.length ≤ 40) (hsm : smallJ js) (hup : upP js.length ps)
    (hk : ∀ h' bs, EX h h' → BS ps js.length bs → (-9223372036854775808 ≤ lefts bs js.length 0 ∧ lefts bs js.length 0 < 9223372036854775808) ∧ K (.tuple #[I (lefts bs js.length 0), I 0]) h') : CallP Try.prog 7 [vj, vp] h K := by
  refine f7 (C21 hj hp h1 h10 h40 hsm hup ?_)
  intro p g bs xg hpl hbs
  obtain ⟨hrange, hfin⟩ : (-9223372036854775808 ≤ lefts bs js.length 0 ∧ lefts bs js.length 0 < 9223372036854775808) ∧ ∀ h', EX g h' → K (.tuple #[I (lefts bs js.length 0), I 0]) h' :=
    ⟨(hk g bs xg hbs).1, fun h' x => (hk h' bs (xg.trans x) hbs).2⟩
  have hlenj : js.length = bs.length := hbs.len.symm
  have hpj : iLenSl vj = some (I js.length) := hj.len
  simp only [ext_tuple, pair0, pair1, OP_some, un_not, Bool.not_true, IfP_false]
  refine C22 hpl h10 ?_
  generalize hn : js.length = n at *
  have hF1024 := allS_lt h10
  have h2n : (2 : Nat) ^ n ≤ 2 ^ 10 := Nat.pow_le_pow_right (by decide) h10
  have h2p : 2 ≤ 2 ^ n := by
    have : (2 : Nat) ^ 1 ≤ 2 ^ n := Nat.pow_le_pow_right (by decide) h1
    omega
  have hFull : allS n + 1 = 2 ^ n := by unfold allS; omega
  have hz : ∀ m, zrep [Value.int .i64 0] m = (List.replicate m 0).map fun b : Int => I b := by
    intro m
    induction m with
    | zero => rfl
    | succ m ih =>
      have : zrep [Value.int .i64 0] (m + 1) = Value.int .i64 0 :: zrep [Value.int .i64 0] m := by simp [zrep, List.replicate_succ]
      rw [this, ih, List.replicate_succ]; rfl
  have mk : iMake 3 8 [.int .i64 0] g (I (2 ^ n : Nat)) (I (2 ^ n : Nat)) = some (sl 3 g.length 0 (2 ^ n), g ++ [.arr 3 ((List.replicate (2 ^ n) 0).map fun b : Int => I b)]) := by
    simp only [iMake]
    rw [if_pos ⟨by omega, by omega, by omega, by omega⟩, Int.toNat_natCast, hz]
  simp only [conv_int, OP_some]
  rw [wrap64 (n := ((allS n : Nat) : Int)) (by omega) (by omega)]
  simp only [bin_add, OP_some, inc (allS n) (by omega), hFull, mk, OH_some]
  have ad0 : iAdrSl 1 (sl 3 g.length 0 (2 ^ n)) (I 0) = some (pt g.length 0) := adr_sl (show 0 < 2 ^ n by omega)
  have lenW : iLenSl (sl 3 g.length 0 (2 ^ n)) = some (I (2 ^ n : Nat)) := rfl
  simp only [ad0, OP_some]
  rw [store_at get_last (by simp; omega) rfl rfl]
  simp only [OH_some, lenW, OP_some]
  have x0 : EX g ((g ++ [IObj.arr 3 ((List.replicate (2 ^ n) 0).map fun b : Int => I b)]).set g.length (.arr 3 (((List.replicate (2 ^ n) 0).map fun b : Int => I b).set 0 (I 1)))) := EX.set (EX.append _ _) (Nat.le_refl _) _
  have k0 : ((g ++ [IObj.arr 3 ((List.replicate (2 ^ n) 0).map fun b : Int => I b)]).set g.length (.arr 3 (((List.replicate (2 ^ n) 0).map fun b : Int => I b).set 0 (I 1))))[g.length]? = some (.arr 3 (((List.replicate (2 ^ n) 0).set 0 1).map fun b : Int => I b)) := by
    rw [set_get get_last, List.map_set]
  have phi0 : ∃ q, phi bs n ((List.replicate (2 ^ n) 0).set 0 1) 0 (2 ^ n) = lefts bs n 0 + q * M64 := by
    refine ⟨0, ?_⟩
    rw [phi_set bs n _ 0 1 (by simp; omega) (Nat.le_refl 0) (2 ^ n) (by omega)]
    have hz0 : ∀ m, phi bs n (List.replicate (2 ^ n) 0) 0 m = 0 := by
      intro m
      induction m with
      | zero => rfl
      | succ m ih =>
        simp only [phi, ih]
        have : (List.replicate (2 ^ n) (0 : Int)).getD (0 + m) 0 = 0 := by
          simp only [List.getD_eq_getElem?_getD, List.getElem?_replicate]
          split <;> rfl
        rw [this]; simp
    rw [hz0]
    have : (List.replicate (2 ^ n) (0 : Int)).getD 0 0 = 0 := by
      simp only [List.getD_eq_getElem?_getD, List.getElem?_replicate]
      split <;> rfl
    rw [this]; simp
  have hb1024 : ∀ b ∈ bs, b < 1024 := fun b hb => Nat.lt_of_lt_of_le (hbs.lt b hb) h2n
  have hbl := hbs.len
  refine loopL (σ := Nat × List Int × Heap) (fun p => [I p.1]) (fun p => p.2.2)
    (fun p => p.1 ≤ 2 ^ n ∧ EX g p.2.2 ∧ p.2.2[g.length]? = some (.arr 3 (p.2.1.map fun b : Int => I b)) ∧ p.2.1.length = 2 ^ n ∧ (∀ w ∈ p.2.1, -9223372036854775808 ≤ w ∧ w < 9223372036854775808) ∧ (p.1 < 2 ^ n → ∃ q, phi bs n p.2.1 p.1 (2 ^ n - p.1) = lefts bs n 0 + q * M64) ∧ (p.1 = 2 ^ n → ∃ q, p.2.1.getD (allS n) 0 = lefts bs n 0 + q * M64)) (fun p => 2 ^ n - p.1)
    (0, (List.replicate (2 ^ n) 0).set 0 1, _) rfl rfl ⟨Nat.zero_le _, x0, k0, by simp, by
      intro w hw
      rcases List.mem_or_eq_of_mem_set hw with h9 | h9
      · rw [(List.mem_replicate.1 h9).2]; omega
      · omega, fun _ => phi0, fun h0 => by exfalso; simp only at h0; omega⟩ ?_
  rintro ⟨s, ws, hx⟩ ⟨hs, xx, kx, wl, wr, ph1, ph2⟩ L hL
  simp only at hs xx kx wl wr ph1 ph2 hL ⊢
  have hplx := hpl.mono xx
  rw [q7z11]
  simp only [bin_lss, OP_some, IfP_dec]
  refine ⟨fun hlt => ?_, fun hge => ?_⟩
  · have hsn : s < 2 ^ n := by omega
    simp only [hpj, OP_some]
    obtain ⟨q0, hq0⟩ := ph1 hsn
    have hfirst := phi_first bs n ws s (2 ^ n - s - 1)
    rw [show 2 ^ n - s - 1 + 1 = 2 ^ n - s by omega] at hfirst
    rw [hfirst] at hq0
    refine loopL (σ := Nat × List Int × Heap) (fun p => [I p.1]) (fun p => p.2.2)
      (fun p => p.1 ≤ n ∧ EX g p.2.2 ∧ p.2.2[g.length]? = some (.arr 3 (p.2.1.map fun b : Int => I b)) ∧ p.2.1.length = 2 ^ n ∧ (∀ w ∈ p.2.1, -9223372036854775808 ≤ w ∧ w < 9223372036854775808) ∧
        (∃ q, p.2.1.getD s 0 * (lefts bs n s - rsum p.1 fun i => if rdyS bs s i = true then lefts bs n (s ||| 2 ^ i) else 0) + phi bs n p.2.1 (s + 1) (2 ^ n - s - 1) = lefts bs n 0 + q * M64)) (fun p => n - p.1)
      (0, ws, hx) rfl rfl ⟨Nat.zero_le _, xx, kx, wl, wr, q0, by simp only [rsum, Int.sub_zero]; exact hq0⟩ ?_
    rintro ⟨i, us, hy⟩ ⟨hi, xy, ky, ul, ur, ⟨q1, hq1⟩⟩ L2 hL2
    simp only at hi xy ky ul ur hq1 hL2 ⊢
    have hply := hpl.mono xy
    rw [q7z19]
    simp only [bin_lss, OP_some, IfP_dec]
    refine ⟨fun hlt2 => ?_, fun hge2 => ?_⟩
    · have hin : i < n := by omega
      have ew : IntKind.wrap .u16 (s : Int) = (s : Int) := skU.wrap (by omega) (by omega)
      simp only [conv_int, OP_some, ew]
      refine C23 hply (by omega) (by omega) (by omega) hb1024 ?_
      rw [rdy_eq]
      refine IfP_of (fun hr => ?_) fun hr => ?_
      · have hlt3 := lt_or_pow (rdyS_bit hr)
        have hor := or_lt hsn hin
        have hp2 : (2 : Nat) ^ i < 1024 := Nat.lt_of_lt_of_le (Nat.pow_lt_pow_right (by decide) (show i < 10 by omega)) (by decide)
        have ld : ∀ t, t < 2 ^ n → iLoad false 1 hy (pt g.length t) = some (I (us.getD t 0)) := by
          intro t ht
          have htl : t < us.length := by omega
          simp [iLoad, objCells, ky, iPart, List.getD_eq_getElem?_getD, htl]
        simp only [shlK skI (show i < 11 by omega), OP_some, orK skI (show s < 1024 by omega) hp2, adr_sl hor, ld _ hor, true_and, adr_sl hsn, ld _ hsn, bin_add]
        rw [store_at ky (by simp; omega) rfl rfl]
        simp only [OH_some, q7z26, bin_add, OP_some, inc i (by omega), true_and]
        obtain ⟨q2, hq2⟩ := wrap_mod (us.getD (s ||| 2 ^ i) 0 + us.getD s 0)
        have hrng : -9223372036854775808 ≤ IntKind.wrap .i64 (us.getD (s ||| 2 ^ i) 0 + us.getD s 0) ∧ IntKind.wrap .i64 (us.getD (s ||| 2 ^ i) 0 + us.getD s 0) < 9223372036854775808 := by
          generalize us.getD (s ||| 2 ^ i) 0 + us.getD s 0 = y
          have e : IntKind.wrap .i64 y = if 9223372036854775808 ≤ y % 18446744073709551616 then y % 18446744073709551616 - 18446744073709551616 else y % 18446744073709551616 := by
            simp [IntKind.wrap, IntKind.bits, IntKind.signed]
          rw [e]
          split <;> omega
        have es : (us.map fun b : Int => I b).set (s ||| 2 ^ i) (I (IntKind.wrap .i64 (us.getD (s ||| 2 ^ i) 0 + us.getD s 0))) = (us.set (s ||| 2 ^ i) (IntKind.wrap .i64 (us.getD (s ||| 2 ^ i) 0 + us.getD s 0))).map fun b : Int => I b := by rw [List.map_set]
        rw [es]
        refine hL2 (i + 1, us.set (s ||| 2 ^ i) (IntKind.wrap .i64 (us.getD (s ||| 2 ^ i) 0 + us.getD s 0)), _) ⟨by show i + 1 ≤ n; omega, xy.set (Nat.le_refl _) _, set_get ky, by show (us.set _ _).length = _; rw [List.length_set]; exact ul, ?_, ?_⟩ (by show n - (i + 1) < n - i; omega)
        · intro w hw
          rcases List.mem_or_eq_of_mem_set hw with h9 | h9
          · exact ur w h9
          · rw [h9]; exact hrng
        · refine ⟨q1 + q2 * lefts bs n (s ||| 2 ^ i), ?_⟩
          show (us.set (s ||| 2 ^ i) _).getD s 0 * (lefts bs n s - rsum (i + 1) fun i => if rdyS bs s i = true then lefts bs n (s ||| 2 ^ i) else 0) + phi bs n (us.set (s ||| 2 ^ i) _) (s + 1) (2 ^ n - s - 1) = _
          have g1 : (us.set (s ||| 2 ^ i) (IntKind.wrap .i64 (us.getD (s ||| 2 ^ i) 0 + us.getD s 0))).getD s 0 = us.getD s 0 := by
            simp only [List.getD_eq_getElem?_getD]
            rw [List.getElem?_set_ne (by omega)]
          rw [g1, phi_set bs n us (s + 1) _ (by omega) (by omega) (2 ^ n - s - 1) (by omega)]
          simp only [rsum]
          rw [if_pos hr, hq2]
          generalize us.getD s 0 = a at *
          generalize us.getD (s ||| 2 ^ i) 0 = b at *
          generalize lefts bs n (s ||| 2 ^ i) = l at *
          generalize phi bs n us (s + 1) (2 ^ n - s - 1) = f at *
          generalize (rsum i fun i => if rdyS bs s i = true then lefts bs n (s ||| 2 ^ i) else 0) = r at *
          generalize lefts bs n s = z at *
          generalize M64 = m at *
          have e1 : b + a + q2 * m - b = a + q2 * m := by omega
          rw [e1, Int.add_mul, Int.add_mul]
          have e2 : a * (z - (r + l)) = a * (z - r) - a * l := by
            rw [← Int.mul_sub]
            congr 1
            omega
          have e3 : q2 * m * l = q2 * l * m := by rw [Int.mul_assoc, Int.mul_comm m l, Int.mul_assoc]
          rw [e2, e3]
          omega
      · have hr' : rdyS bs s i = false := by simpa using hr
        simp only [q7z26, bin_add, OP_some, inc i (by omega), true_and]
        refine hL2 (i + 1, us, hy) ⟨by show i + 1 ≤ n; omega, xy, ky, ul, ur, q1, ?_⟩ (by show n - (i + 1) < n - i; omega)
        show us.getD s 0 * (lefts bs n s - rsum (i + 1) fun i => if rdyS bs s i = true then lefts bs n (s ||| 2 ^ i) else 0) + _ = _
        simp only [rsum]
        rw [if_neg (by rw [hr']; simp), Int.add_zero]
        exact hq1
    · have hie : i = n := by omega
      subst hie
      simp only [q7z27, bin_add, OP_some, inc s (by omega), true_and]
      refine hL (s + 1, us, hy) ⟨by show s + 1 ≤ 2 ^ i; omega, xy, ky, ul, ur, fun hs1 => ⟨q1, ?_⟩, fun hs1 => ⟨q1, ?_⟩⟩ (by show 2 ^ i - (s + 1) < 2 ^ i - s; omega)
      · have hs1' : s + 1 < 2 ^ i := hs1
        have hsf : s < fullS i := by unfold fullS; omega
        rw [← lefts_rec bs i hsf] at hq1
        show phi bs i us (s + 1) (2 ^ i - (s + 1)) = _
        rw [show 2 ^ i - (s + 1) = 2 ^ i - s - 1 by omega]
        rw [Int.sub_self, Int.mul_zero, Int.zero_add] at hq1
        exact hq1
      · have hs1' : s + 1 = 2 ^ i := hs1
        have hsf : s = fullS i := by unfold fullS; omega
        show us.getD (allS i) 0 = _
        have hno : ∀ k, k ≤ i → (rsum k fun k => if rdyS bs s k = true then lefts bs i (s ||| 2 ^ k) else 0) = 0 := by
          intro k hk2
          induction k with
          | zero => rfl
          | succ k ih =>
            have : rdyS bs s k = false := by
              unfold rdyS
              rw [hsf, ← full_eq, allS_bit, decide_eq_true (by omega)]; rfl
            simp only [rsum, ih (by omega), this]
            simp
        rw [hno i (Nat.le_refl _), hsf, lefts_full, show 2 ^ i - fullS i - 1 = 0 by omega] at hq1
        simp only [phi, Int.sub_zero, Int.mul_one, Int.add_zero] at hq1
        exact hq1
  · have hse : s = 2 ^ n := by omega
    obtain ⟨q, hq⟩ := ph2 hse
    rw [q7z28]
    refine C22 hplx (by omega) ?_
    rw [hn]
    have hwr : -9223372036854775808 ≤ ws.getD (allS n) 0 ∧ ws.getD (allS n) 0 < 9223372036854775808 := by
      have hal : allS n < ws.length := by omega
      have : ws.getD (allS n) 0 = ws[allS n] := by simp [List.getD_eq_getElem?_getD, hal]
      rw [this]; exact wr _ (List.getElem_mem hal)
    have hval : ws.getD (allS n) 0 = lefts bs n 0 := by
      unfold M64 at hq
      omega
    have es : iSlSl 3 1 (sl 3 g.length 0 (2 ^ n)) (some (U (allS n))) none = some (.slice (some ⟨g.length, allS n, some 3⟩) 1 1) := by
      have h9 : allS n ≤ 2 ^ n := by omega
      have h8 : 2 ^ n - allS n = 1 := by omega
      simp [iSlSl, sl, iBounds, natOf, h9, h8]
    simp only [es, OP_some]
    refine C24 (m := lefts bs n 0) ?_ ?_
    · have hal : allS n < ws.length := by omega
      rw [← hval]
      simp [iLoad, objCells, kx, iPart, List.getD_eq_getElem?_getD, hal]
    · exact hfin hx xx

end Go.Proofs.Ytipeennffbbglaa

/-
  Orders and their cost, both sides.
-/
namespace Go.Proofs.Ytipeennffbbglaa
open Go.Sim

theorem smallJ.all {js : List (Int × Int)} (h : smallJ js) (i : Nat) : (0 ≤ lenJ js i ∧ lenJ js i ≤ 50) ∧ 0 ≤ weiJ js i ∧ weiJ js i ≤ 50 := by
  unfold lenJ weiJ
  by_cases hi : i < js.length
  · have := h.getD hi; omega
  · have : js.getD i (0, 0) = (0, 0) := by
      simp only [List.getD_eq_getElem?_getD]
      rw [List.getElem?_eq_none (by omega)]; rfl
    rw [this]; simp

theorem C27 {v lo hi : Int} {h : Heap} {K : Value → Heap → Prop} (h1 : lo ≤ v) (h2 : v ≤ hi) (hk : K (B true) h) : CallP Try.prog 27 [I v, I lo, I hi] h K := by
  refine f27 ?_
  simp only [T27, bin_geq, OP_some, decide_eq_true h1, q27z4, GdP_tt, bin_leq, decide_eq_true h2, q27z6, iPick_t]
  exact hk

/-- What is ahead of a job: the document's set. -/
theorem C28 {vp : Value} {ps : List (Int × Int)} {bs : List Nat} {n j : Nat} {h : Heap} {K : Value → Heap → Prop} (hp : PS h vp ps) (h40 : ps.length ≤ 40) (hup : upP n ps) (hbs : BS ps n bs) (hn : n ≤ 10) (hj : j < n) (hk : K (I (bs.getD j 0)) h) :
    CallP Try.prog 28 [vp, I j] h K := by
  refine f28 ?_
  unfold T28
  have h2n : (2 : Nat) ^ n ≤ 2 ^ 10 := Nat.pow_le_pow_right (by decide) hn
  refine loopL (σ := Nat × Nat) (fun p => [I p.2, I p.1]) (fun _ => h) (fun p => p.1 ≤ ps.length ∧ p.2 < 2 ^ n ∧ ∀ a : Nat, p.2.testBit a = decide (((a : Int), (j : Int)) ∈ ps.take p.1)) (fun p => ps.length - p.1) (0, 0) rfl rfl ⟨Nat.zero_le _, Nat.pow_pos (by decide), fun a => by simp⟩ ?_
  rintro ⟨i, s⟩ ⟨hi, hs, hb⟩ L hL
  simp only at hi hs hb hL ⊢
  rw [q28z6]
  simp only [hp.len, OP_some, bin_lss, IfP_dec]
  refine ⟨fun hlt => ?_, fun hge => ?_⟩
  · have hip : i < ps.length := by omega
    obtain ⟨b, o, g1, g2, g3, _⟩ := hp.get i hip
    have hpu := hup _ (List.getElem_mem hip)
    have htk : ps.take (i + 1) = ps.take i ++ [ps[i]] := List.take_succ_eq_append_getElem hip
    generalize ps[i] = pr at g2 g3 hpu htk
    obtain ⟨pa, pb⟩ := pr
    simp only at g2 g3 hpu
    obtain ⟨a, rfl⟩ : ∃ a : Nat, pa = a := ⟨pa.toNat, by omega⟩
    simp only [g1, OP_some, fadr_pt, Nat.add_zero, g3, bin_eql, IfP_dec]
    refine ⟨fun he => ?_, fun hne => ?_⟩
    · have ha : a < n := by omega
      have hp2 : (2 : Nat) ^ a < 1024 := Nat.lt_of_lt_of_le (Nat.pow_lt_pow_right (by decide) (show a < 10 by omega)) (by decide)
      simp only [g2, OP_some, shlK skI (show a < 11 by omega), orK skI (show s < 1024 by omega) hp2, q28z12, bin_add, inc i (by omega), true_and]
      refine hL (i + 1, s ||| 2 ^ a) ⟨by show i + 1 ≤ ps.length; omega, or_lt hs ha, fun c => ?_⟩ (by show ps.length - (i + 1) < ps.length - i; omega)
      show (s ||| 2 ^ a).testBit c = decide (((c : Int), (j : Int)) ∈ ps.take (i + 1))
      rw [testBit_or_pow, hb c, htk]
      by_cases hac : a = c
      · subst hac; simp [he]
      · have : ¬ ((c : Int) = (a : Int)) := by omega
        simp [hac, this]
    · simp only [q28z12, bin_add, OP_some, inc i (by omega), true_and]
      refine hL (i + 1, s) ⟨by show i + 1 ≤ ps.length; omega, hs, fun c => ?_⟩ (by show ps.length - (i + 1) < ps.length - i; omega)
      show s.testBit c = decide (((c : Int), (j : Int)) ∈ ps.take (i + 1))
      rw [hb c, htk]
      have : ¬ ((j : Int) = pb) := fun h => hne h.symm
      simp [this]
  · have hie : i = ps.length := by omega
    subst hie
    rw [List.take_length] at hb
    rw [q28z13]
    have : s = bs.getD j 0 := by
      apply Nat.eq_of_testBit_eq
      intro a
      rw [hb a, hbs.bit j hj a]
    rw [this]
    exact hk

theorem NS.getN {h : Heap} {v : Value} {l : List Nat} (p : NS h v .i64 (l.map fun i : Nat => (i : Int))) {i : Nat} (hi : i < l.length) : ∃ b o, iAdrSl 1 v (I i) = some (pt b o) ∧ iLoad false 1 h (pt b o) = some (I l[i]) := by
  obtain ⟨b, o, g1, g2⟩ := p.get i (by simpa using hi)
  exact ⟨b, o, g1, by rw [g2]; simp⟩

theorem NS.lenN {h : Heap} {v : Value} {l : List Nat} (p : NS h v .i64 (l.map fun i : Nat => (i : Int))) : iLenSl v = some (I l.length) := by have := p.len; rwa [List.length_map] at this

/-- The document finds an order valid. -/
theorem C9 {vj vp vl : Value} {js ps : List (Int × Int)} {bs l : List Nat} {n : Nat} {h : Heap} {K : Value → Heap → Prop} (hj : PS h vj js) (hp : PS h vp ps) (hn : js.length = n) (h10 : n ≤ 10) (h40 : ps.length ≤ 40) (hup : upP n ps) (hbs : BS ps n bs)
    (hl : NS h vl .i64 (l.map fun i : Nat => (i : Int))) (hok : okO bs n 0 l = true) (hlen : l.length = n) (hk : K (B true) h) : CallP Try.prog 9 [vj, vp, vl] h K := by
  refine f9 ?_
  unfold T9
  have h2n : (2 : Nat) ^ n ≤ 2 ^ 10 := Nat.pow_le_pow_right (by decide) h10
  have hlt := okO_lt hok
  refine loopL (σ := Nat) (fun i => [I (stO 0 (l.take i)), I i]) (fun _ => h) (fun i => i ≤ l.length) (fun i => l.length - i) 0 rfl rfl (Nat.zero_le _) ?_
  intro i hi L hL
  have hst : stO 0 (l.take i) < 2 ^ n := stO_lt (Nat.pow_pos (by decide)) fun x hx => hlt x (List.mem_of_mem_take hx)
  rw [q9z6]
  simp only [NS.lenN hl, OP_some, bin_lss, IfP_dec]
  refine ⟨fun hlt2 => ?_, fun hge => ?_⟩
  · have hil : i < l.length := by omega
    obtain ⟨h1, h2⟩ := okO_at hok hil
    obtain ⟨b, o, g1, g2⟩ := NS.getN hl hil
    have hstk := stO_take (s := 0) hil
    generalize hs : stO 0 (l.take i) = s at *
    generalize l[i] = a at *
    have e1 : IntKind.wrap .i64 ((js.length : Int) - 1) = (n : Int) - 1 := by rw [wrap64 (by omega) (by omega)]; omega
    simp only [g1, g2, OP_some, hj.len, bin_sub, e1]
    refine C27 (by omega) (by omega) ?_
    have hbit : s.testBit a = false := rdyS_bit h2
    have hsub : subB (bs.getD a 0) s = true := by unfold rdyS at h2; rw [Bool.and_eq_true] at h2; exact h2.2
    have hd : s / 2 ^ a < 1024 := Nat.lt_of_le_of_lt (Nat.div_le_self _ _) (by omega)
    have ha := andK skI hd (show 1 < 1024 by decide)
    have ha' : iBin .and (.int .i64 ((s / 2 ^ a : Nat) : Int)) (.int .i64 1) = some (.int .i64 ((s / 2 ^ a &&& 1 : Nat) : Int)) := ha
    have hne : ¬ (((s / 2 ^ a &&& 1 : Nat) : Int) = 1) := by
      rw [Nat.testBit_eq_decide_div_mod_eq] at hbit
      have := of_decide_eq_false hbit
      rw [bit_and]; omega
    simp only [un_not, OP_some, Bool.not_true, q9z14, GdP_ff, g1, g2, shrK skI (show a < 16 by omega), ha', bin_eql, decide_eq_false hne, q9z16, iPick_f, q9z18]
    refine C28 hp h40 hup hbs h10 h1 ?_
    have hba := hbs.getD_lt a
    obtain ⟨r, r1, r2⟩ := andNotK skI (show bs.getD a 0 < 1024 by omega) (show s < 1024 by omega)
    have hr0 := r2.2 hsub
    subst hr0
    have hp2 : (2 : Nat) ^ a < 1024 := Nat.lt_of_lt_of_le (Nat.pow_lt_pow_right (by decide) (show a < 10 by omega)) (by decide)
    have e0 : ((0 : Nat) : Int) = 0 := rfl
    simp only [r1, OP_some, e0, bin_neq, decide_true, Bool.not_true, q9z20, iPick_f, IfP_false, g1, g2, shlK skI (show a < 11 by omega), orK skI (show s < 1024 by omega) hp2, bin_add, inc i (by omega), true_and]
    have := hL (i + 1) (by show i + 1 ≤ l.length; omega) (by show l.length - (i + 1) < l.length - i; omega)
    rw [hstk] at this
    exact this
  · rw [q9z22]
    simp only [NS.lenN hl, hj.len, OP_some, bin_eql]
    rw [decide_eq_true (by omega)]
    exact hk

theorem C10 {vj vl : Value} {js : List (Int × Int)} {l : List Nat} {h : Heap} {K : Value → Heap → Prop} (hj : PS h vj js) (hsm : smallJ js) (hl : NS h vl .i64 (l.map fun i : Nat => (i : Int))) (hlt : ∀ i ∈ l, i < js.length) (hlen : l.length ≤ 10)
    (hk : K (I (costF js 0 l)) h) : CallP Try.prog 10 [vj, vl] h K := by
  refine f10 ?_
  unfold T10
  refine loopL (σ := Nat) (fun i => [I (endF js 0 (l.take i)), I (costF js 0 (l.take i)), I i]) (fun _ => h) (fun i => i ≤ l.length) (fun i => l.length - i) 0 rfl rfl (Nat.zero_le _) ?_
  intro i hi L hL
  rw [q10z6]
  simp only [NS.lenN hl, OP_some, bin_lss, IfP_dec]
  refine ⟨fun hlt2 => ?_, fun hge => ?_⟩
  · have hil : i < l.length := by omega
    obtain ⟨b, o, g1, g2⟩ := NS.getN hl hil
    obtain ⟨c, q, r1, r2, r3, _⟩ := PS.getD hj (hlt _ (List.getElem_mem hil))
    have he := endF_take js 0 hil
    have hc := costF_take js 0 hil
    have hb1 := cost_bound hsm.all (l.take (i + 1)) 0 (Int.le_refl _) (by rw [List.length_take]; omega)
    have hb0 := cost_bound hsm.all (l.take i) 0 (Int.le_refl _) (by rw [List.length_take]; omega)
    have hal := hsm.all l[i]
    rw [List.length_take] at hb1 hb0
    have r2' : iLoad false 1 h (pt c q) = some (I (lenJ js l[i])) := r2
    have r3' : iLoad false 1 h (pt c (q + 1)) = some (I (weiJ js l[i])) := r3
    have hw1 : IntKind.wrap .i64 (endF js 0 (l.take i) + lenJ js l[i]) = endF js 0 (l.take (i + 1)) := by rw [← he, wrap64 (by omega) (by omega)]
    have hm1 : 0 ≤ weiJ js l[i] * endF js 0 (l.take (i + 1)) := Int.mul_nonneg hal.2.1 (by omega)
    have hm2 : weiJ js l[i] * endF js 0 (l.take (i + 1)) ≤ 50 * 1000 := Int.mul_le_mul hal.2.2 (by omega) (by omega) (by omega)
    have hw2 : IntKind.wrap .i64 (weiJ js l[i] * endF js 0 (l.take (i + 1))) = weiJ js l[i] * endF js 0 (l.take (i + 1)) := wrap64 (by omega) (by omega)
    rw [← he] at hc
    have hw3 : IntKind.wrap .i64 (costF js 0 (l.take i) + weiJ js l[i] * endF js 0 (l.take (i + 1))) = costF js 0 (l.take (i + 1)) := by rw [← hc, wrap64 (by omega) (by omega)]
    simp only [g1, g2, OP_some, r1, fadr_pt, Nat.add_zero, r2', bin_add, hw1, r3', bin_mul, hw2, hw3, inc i (by omega), true_and]
    exact hL (i + 1) (by omega) (by omega)
  · have hie : i = l.length := by omega
    subst hie
    rw [List.take_length, q10z12]
    exact hk

theorem C12 {vj vp vl : Value} {js ps : List (Int × Int)} {l : List Nat} {h : Heap} {K : Value → Heap → Prop} (hj : PS h vj js) (hp : PS h vp ps) (h1 : 1 ≤ js.length) (h10 : js.length ≤ 10) (h40 : ps.length ≤ 40) (hsm : smallJ js) (hup : upP js.length ps)
    (hl : NS h vl .i64 (l.map fun i : Nat => (i : Int))) (hlen : l.length = js.length) (hok : ∀ bs, BS ps js.length bs → okO bs js.length 0 l = true) (hk : ∀ h', EX h h' → K (.tuple #[I (costF js 0 l), I 0]) h') : CallP Try.prog 12 [vj, vp, vl] h K := by
  refine f12 (C21 hj hp h1 h10 h40 hsm hup ?_)
  intro p g bs xg hpl hbs
  have hok := hok bs hbs
  have hlt := okO_lt hok
  have hlg := hl.mono xg
  have hjg := hj.mono xg
  have h2n : (2 : Nat) ^ js.length ≤ 2 ^ 10 := Nat.pow_le_pow_right (by decide) h10
  have hb1024 : ∀ b ∈ bs, b < 1024 := fun b hb => Nat.lt_of_lt_of_le (hbs.lt b hb) h2n
  have hbl := hbs.len
  simp only [ext_tuple, pair0, pair1, OP_some, un_not, Bool.not_true, IfP_false, NS.lenN hl, hj.len, bin_neq, hlen, decide_true, Bool.not_true]
  refine loopL (σ := Nat) (fun i => [U (stO 0 (l.take i)), I (costF js 0 (l.take i)), I (endF js 0 (l.take i)), I i]) (fun _ => g) (fun i => i ≤ l.length) (fun i => l.length - i) 0 rfl rfl (Nat.zero_le _) ?_
  intro i hi L hL
  have hst : stO 0 (l.take i) < 2 ^ js.length := stO_lt (Nat.pow_pos (by decide)) fun x hx => hlt x (List.mem_of_mem_take hx)
  rw [q12z14]
  simp only [bin_lss, OP_some, IfP_dec]
  refine ⟨fun hlt2 => ?_, fun hge => ?_⟩
  · have hil : i < l.length := by omega
    obtain ⟨b, o, g1, g2⟩ := NS.getN hlg hil
    obtain ⟨o1, o2⟩ := okO_at hok hil
    obtain ⟨c, q, r1, r2, r3, _⟩ := PS.getD hjg o1
    have hstk := stO_take (s := 0) hil
    have he := endF_take js 0 hil
    have hc := costF_take js 0 hil
    have hb1 := cost_bound hsm.all (l.take (i + 1)) 0 (Int.le_refl _) (by rw [List.length_take]; omega)
    have hb0 := cost_bound hsm.all (l.take i) 0 (Int.le_refl _) (by rw [List.length_take]; omega)
    have hal := hsm.all l[i]
    rw [List.length_take] at hb1 hb0
    have r2' : iLoad false 1 g (pt c q) = some (I (lenJ js l[i])) := r2
    have r3' : iLoad false 1 g (pt c (q + 1)) = some (I (weiJ js l[i])) := r3
    have hw1 : IntKind.wrap .i64 (endF js 0 (l.take i) + lenJ js l[i]) = endF js 0 (l.take (i + 1)) := by rw [← he, wrap64 (by omega) (by omega)]
    have hm1 : 0 ≤ weiJ js l[i] * endF js 0 (l.take (i + 1)) := Int.mul_nonneg hal.2.1 (by omega)
    have hm2 : weiJ js l[i] * endF js 0 (l.take (i + 1)) ≤ 50 * 1000 := Int.mul_le_mul hal.2.2 (by omega) (by omega) (by omega)
    have hw2 : IntKind.wrap .i64 (weiJ js l[i] * endF js 0 (l.take (i + 1))) = weiJ js l[i] * endF js 0 (l.take (i + 1)) := wrap64 (by omega) (by omega)
    rw [← he] at hc
    have hw3 : IntKind.wrap .i64 (costF js 0 (l.take i) + weiJ js l[i] * endF js 0 (l.take (i + 1))) = costF js 0 (l.take (i + 1)) := by rw [← hc, wrap64 (by omega) (by omega)]
    have hp2 : (2 : Nat) ^ l[i] < 1024 := Nat.lt_of_lt_of_le (Nat.pow_lt_pow_right (by decide) (show l[i] < 10 by omega)) (by decide)
    simp only [g1, g2, OP_some, bin_lss, decide_eq_false (show ¬ ((l[i] : Nat) : Int) < 0 by omega), q12z23, GdP_ff, hj.len, bin_geq, decide_eq_false (show ¬ (js.length : Int) ≤ ((l[i] : Nat) : Int) by omega), q12z25, iPick_f, q12z27]
    refine C23 (i := l[i]) hpl (by omega) (by omega) (by omega) hb1024 ?_
    rw [rdy_eq, o2]
    simp only [un_not, OP_some, Bool.not_true, q12z29, iPick_f, IfP_false, shlK skU (show l[i] < 11 by omega), orK skU (show stO 0 (l.take i) < 1024 by omega) hp2, r1, fadr_pt, Nat.add_zero, r2', bin_add, hw1, r3', bin_mul, hw2, hw3, inc i (by omega), true_and]
    rw [← hstk]
    exact hL (i + 1) (by omega) (by omega)
  · have hie : i = l.length := by omega
    subst hie
    rw [List.take_length, q12z33]
    exact hk g xg

end Go.Proofs.Ytipeennffbbglaa

/-
  The memo of least costs, and the best order.
-/
namespace Go.Proofs.Ytipeennffbbglaa
open Go.Sim

/-- Cells that were there are there. -/
def CX (h h' : Heap) : Prop := ∀ d cs, objCells h d = some cs → objCells h' d = some cs
theorem CX.refl (h : Heap) : CX h h := fun _ _ h => h
theorem CX.load {h h' : Heap} (k : CX h h') {agg : Bool} {n : Nat} {a v : Value} (hl : iLoad agg n h a = some v) : iLoad agg n h' a = some v := by
  unfold iLoad at hl ⊢
  split at hl
  · rename_i i o
    cases hc : objCells h i with
    | none => rw [hc] at hl; cases hl
    | some xs => rw [hc] at hl; rw [k _ _ hc]; exact hl
  · cases hl
theorem PS.monoC {h h' : Heap} {v : Value} {ps : List (Int × Int)} (k : CX h h') (p : PS h v ps) : PS h' v ps :=
  ⟨p.len, fun j hj => let ⟨i, o, a, b, c, d⟩ := p.get j hj; ⟨i, o, a, k.load b, k.load c, k.load d⟩⟩
theorem NS.monoC {h h' : Heap} {v : Value} {k : IntKind} {ns : List Int} (e : CX h h') (p : NS h v k ns) : NS h' v k ns :=
  ⟨p.len, fun j hj => let ⟨i, o, a, b⟩ := p.get j hj; ⟨i, o, a, e.load b⟩, p.le⟩
theorem PL.monoC {h h' : Heap} {p : Value} {js : List (Int × Int)} {bs : List Nat} (x : CX h h') (q : PL h p js bs) : PL h' p js bs :=
  let ⟨i, vj, vb, a, b, c, d⟩ := q; ⟨i, vj, vb, a, x _ _ b, c.monoC x, NS.monoC x d⟩

/-- All is as it was, but for one object. -/
def XM (im : Nat) (h h' : Heap) : Prop := h.length ≤ h'.length ∧ ∀ d, d < h.length → d ≠ im → h'[d]? = h[d]?
theorem XM.refl (im : Nat) (h : Heap) : XM im h h := ⟨Nat.le_refl _, fun _ _ _ => rfl⟩
theorem XM.trans {im : Nat} {a b c : Heap} (h : XM im a b) (k : XM im b c) : XM im a c := ⟨Nat.le_trans h.1 k.1, fun d h1 h2 => (k.2 d (Nat.lt_of_lt_of_le h1 h.1) h2).trans (h.2 d h1 h2)⟩
theorem XM.ex {im : Nat} {a b : Heap} (h : EX a b) : XM im a b := ⟨h.1, fun d h1 _ => h.2 d h1⟩
theorem XM.set {im : Nat} {a b : Heap} (h : XM im a b) (o : IObj) : XM im a (b.set im o) := ⟨by simpa using h.1, fun d h1 h2 => by rw [List.getElem?_set_ne (by omega)]; exact h.2 d h1 h2⟩
theorem XM.get {im : Nat} {a b : Heap} (h : XM im a b) {d : Nat} {o : IObj} (hd : d ≠ im) (hg : a[d]? = some o) : b[d]? = some o := by
  rw [h.2 d (List.getElem?_eq_some_iff.1 hg).1 hd]; exact hg
theorem XM.cx {im : Nat} {a b : Heap} (h : XM im a b) {kd : IntKind} {es : List (Int × Value)} (hm : a[im]? = some (.imap kd es)) : CX a b := by
  intro d cs hc
  have hd : d ≠ im := by
    rintro rfl
    simp [objCells, hm] at hc
  have hl : d < a.length := by
    apply Classical.byContradiction
    intro hge
    rw [objCells, List.getElem?_eq_none (by omega)] at hc
    cases hc
  simpa [objCells, h.2 d hl hd] using hc

theorem findI_setI (k : Int) (v : Value) (k' : Int) : ∀ es : List (Int × Value), findI k' (setI k v es) = if k' = k then some v else findI k' es
  | [] => by simp [setI, findI]
  | (k1, v1) :: es => by
    simp only [setI]
    by_cases h : k = k1
    · subst h
      simp only [if_true, findI]
      by_cases h2 : k' = k <;> simp [h2]
    · rw [if_neg h]
      simp only [findI, findI_setI k v k' es]
      by_cases h2 : k' = k1
      · subst h2
        rw [if_pos rfl, if_pos rfl, if_neg (fun h3 => h h3.symm)]
      · rw [if_neg h2, if_neg h2]

section
variable (js : List (Int × Int)) (bs : List Nat) (n : Nat)

/-- What the map holds: least costs, and of each set in it all that come next. -/
structure MapOK (es : List (Int × Value)) : Prop where
  val : ∀ s v, findI s es = some v → ∃ t : Nat, s = t ∧ t < 2 ^ n ∧ v = I (minS bs js n t)
  full : (findI (fullS n : Nat) es).isSome = true
  next : ∀ s : Nat, s < fullS n → (findI (s : Int) es).isSome = true → ∀ i, i < n → rdyS bs s i = true → (findI ((s ||| 2 ^ i : Nat) : Int) es).isSome = true

def KeyM (es es' : List (Int × Value)) : Prop := ∀ k, (findI k es).isSome = true → (findI k es').isSome = true
end

theorem KeyM.refl (es : List (Int × Value)) : KeyM es es := fun _ h => h
theorem KeyM.trans {a b c : List (Int × Value)} (h : KeyM a b) (k : KeyM b c) : KeyM a c := fun x hx => k x (h x hx)

theorem MapOK.look {js : List (Int × Int)} {bs : List Nat} {n : Nat} {es : List (Int × Value)} (m : MapOK js bs n es) {s : Nat} (h : (findI (s : Int) es).isSome = true) : findI (s : Int) es = some (I (minS bs js n s)) := by
  obtain ⟨v, hv⟩ := Option.isSome_iff_exists.1 h
  obtain ⟨t, h1, _, h2⟩ := m.val _ _ hv
  have : s = t := by omega
  subst this
  rw [hv, h2]

theorem lookI {g : Heap} {im : Nat} {es : List (Int × Value)} (hg : g[im]? = some (.imap .u16 es)) (s : Nat) : iLookupI .u16 true (.int .i64 0) g (.map (some im)) (U s) = some (.tuple #[(findI (s : Int) es).getD (I 0), B (findI (s : Int) es).isSome]) := by
  simp [iLookupI, hg]
theorem lookI' {g : Heap} {im : Nat} {es : List (Int × Value)} (hg : g[im]? = some (.imap .u16 es)) (s : Nat) : iLookupI .u16 false (.int .i64 0) g (.map (some im)) (U s) = some ((findI (s : Int) es).getD (I 0)) := by
  simp [iLookupI, hg]
theorem updI {g : Heap} {im : Nat} {es : List (Int × Value)} (hg : g[im]? = some (.imap .u16 es)) (s : Nat) (v : Value) : oMupdI .u16 g (.map (some im)) (U s) v = some (undef, g.set im (.imap .u16 (setI s v es))) := by
  simp [oMupdI, iMupdI, hg]

theorem callVP_fn {F : FuncId} {cap : Array Value} {args : List Value} {h : Heap} {K : Value → Heap → Prop} (hF : callOk Try.prog F = true) (hc : CallP Try.prog F (args ++ cap.toList) h K) : CallVP Try.prog (.func (.func F) #[] cap) args h K := by
  rw [CallP_eq] at hc
  exact ⟨⟨hF, by simpa using hc⟩⟩
theorem ok34 : callOk Try.prog 34 = true := by kernel_rfl

/-- What the closure finds in memory. -/
structure EnvC (im ox px cx : Nat) (p : Value) (js : List (Int × Int)) (bs : List Nat) (h : Heap) : Prop where
  o : objCells h ox = some [.map (some im)]
  q : objCells h px = some [p]
  c : objCells h cx = some [.func (.func 34) #[] #[pt ox 0, pt px 0, pt cx 0]]
  pl : PL h p js bs

theorem EnvC.mono {im ox px cx : Nat} {p : Value} {js : List (Int × Int)} {bs : List Nat} {h h' : Heap} (k : CX h h') (e : EnvC im ox px cx p js bs h) : EnvC im ox px cx p js bs h' :=
  ⟨k _ _ e.o, k _ _ e.q, k _ _ e.c, e.pl.monoC k⟩

theorem load_cell {h : Heap} {d : Nat} {v : Value} (hc : objCells h d = some [v]) : iLoad false 1 h (pt d 0) = some v := by
  simp [iLoad, hc, iPart]

theorem C34 {im ox px cx : Nat} {p : Value} {js : List (Int × Int)} {bs : List Nat} {n : Nat} (hn : js.length = n) (hn10 : n ≤ 10) (hsm : smallJ js) (hbl : bs.length = n) (hb : ∀ b ∈ bs, b < 2 ^ n) (hu : goesUp bs n) :
    ∀ (f s : Nat), fullS n - s ≤ f → s < 2 ^ n → ∀ {h : Heap} {es : List (Int × Value)} {K : Value → Heap → Prop}, EnvC im ox px cx p js bs h → h[im]? = some (.imap .u16 es) → MapOK js bs n es →
    (∀ h' es', XM im h h' → h'[im]? = some (.imap .u16 es') → MapOK js bs n es' → KeyM es es' → (findI (s : Int) es').isSome = true → K (I (minS bs js n s)) h') →
    CallP Try.prog 34 [U s, pt ox 0, pt px 0, pt cx 0] h K := by
  have h2n : (2 : Nat) ^ n ≤ 2 ^ 10 := Nat.pow_le_pow_right (by decide) hn10
  have hb1024 : ∀ b ∈ bs, b < 1024 := fun b h => Nat.lt_of_lt_of_le (hb b h) h2n
  have hsF : smallF js := hsm.all
  intro f
  induction f with
  | zero =>
    intro s hf hs h es K env hm ok hk
    have hse : s = fullS n := by unfold fullS at *; omega
    have hfs := ok.full
    rw [← hse] at hfs
    refine f34 ?_
    simp only [T34, load_cell env.o, OP_some, lookI hm, ok.look hfs, ext_tuple, pair0, pair1, Option.getD_some, Option.isSome_some, IfP_true]
    exact hk h es (XM.refl _ _) hm ok (KeyM.refl _) hfs
  | succ f ih =>
    intro s hf hs h es K env hm ok hk
    refine f34 ?_
    simp only [T34, load_cell env.o, OP_some, lookI hm, ext_tuple, pair0, pair1]
    refine IfP_of (fun hin => ?_) fun hout => ?_
    · rw [ok.look hin, Option.getD_some]
      exact hk h es (XM.refl _ _) hm ok (KeyM.refl _) hin
    · have hsf : s < fullS n := by
        rcases Nat.lt_or_ge s (fullS n) with h1 | h1
        · exact h1
        · have : s = fullS n := by unfold fullS at *; omega
          rw [this, ok.full] at hout
          cases hout
      simp only [load_cell env.q, OP_some]
      refine C26 env.pl hsm (by omega) (by rw [hn]; exact hs) ?_
      intro g xg
      have x0 : XM im h g := XM.ex xg
      have hmg := xg.get hm
      have envg := env.mono (x0.cx hm)
      obtain ⟨a, vj, vb, rfl, hc, hjs, hbs⟩ := envg.pl
      have ldj : iLoad false 1 g (pt a 0) = some vj := by simp [iLoad, hc, iPart]
      have hnow : sumJ js (listS s 10) = nowS js s := by
        have : ∀ m, listS s m = listS' s m := by
          intro m
          induction m with
          | zero => rfl
          | succ m ih => simp only [listS, listS', ih]
        unfold sumJ nowS
        rw [this]; rfl
      simp only [load_cell envg.q, OP_some, nilck_pt, fadr_pt, Nat.add_zero, ldj, hjs.len, hn, hnow]
      have hnb := now_bound hsF s
      refine loopL (σ := Nat × List (Int × Value) × Heap) (fun q => [I (bstep bs js s (fun i => minS bs js n (s ||| 2 ^ i)) q.1), I q.1]) (fun q => q.2.2)
        (fun q => q.1 ≤ n ∧ XM im g q.2.2 ∧ q.2.2[im]? = some (.imap .u16 q.2.1) ∧ MapOK js bs n q.2.1 ∧ KeyM es q.2.1 ∧ ∀ i, i < q.1 → rdyS bs s i = true → (findI ((s ||| 2 ^ i : Nat) : Int) q.2.1).isSome = true) (fun q => n - q.1)
        (0, es, g) rfl rfl ⟨Nat.zero_le _, XM.refl _ _, hmg, ok, KeyM.refl _, fun i hi => by omega⟩ ?_
      rintro ⟨i, es1, g1⟩ ⟨hi, x1, hm1, ok1, km1, hnx⟩ L hL
      simp only at hi x1 hm1 ok1 km1 hnx hL ⊢
      have env1 := envg.mono (x1.cx hmg)
      rw [q34z11]
      simp only [bin_lss, OP_some, IfP_dec]
      refine ⟨fun hlt => ?_, fun hge => ?_⟩
      · have hin : i < n := by omega
        have hjL : i < js.length := by omega
        have hjs1 := hjs.monoC (x1.cx hmg)
        obtain ⟨b, o, r1, r2, r3, r4⟩ := PS.getD hjs1 hjL
        have e30 : ∀ g : Heap, iAlloc 30 [(.int .i64 (0)), (.int .i64 (0))] g = some (pt g.length 0, g ++ [.arr 30 [I 0, I 0]]) := fun _ => rfl
        have st2 : ∀ (g : Heap) (t : TypeId) (a b : Int), oStore 2 (g ++ [.arr t [I 0, I 0]]) (pt g.length 0) (.agg #[I a, I b]) = some (undef, g ++ [.arr t [I a, I b]]) := by
          intro g t a b
          simp [oStore, iStore, noTuple, vcells, Value.cells, setAt]
        simp only [r1, OP_some]
        rw [r4]
        simp only [OP_some, e30, OH_some, st2]
        have l0 : iLoad false 1 (g1 ++ [IObj.arr 30 [I (js.getD i (0, 0)).1, I (js.getD i (0, 0)).2]]) (pt g1.length 0) = some (I (js.getD i (0, 0)).1) := load_last rfl
        have l1 : iLoad false 1 (g1 ++ [IObj.arr 30 [I (js.getD i (0, 0)).1, I (js.getD i (0, 0)).2]]) (pt g1.length 1) = some (I (js.getD i (0, 0)).2) := load_last rfl
        have xp : EX g1 (g1 ++ [IObj.arr 30 [I (js.getD i (0, 0)).1, I (js.getD i (0, 0)).2]]) := EX.append _ _
        have hll : (js.getD i (0, 0)).1 = lenJ js i := rfl
        have hww : (js.getD i (0, 0)).2 = weiJ js i := rfl
        rw [hll, hww] at l0 l1 xp ⊢
        generalize hg2 : g1 ++ [IObj.arr 30 [I (lenJ js i), I (weiJ js i)]] = g2 at l0 l1 xp ⊢
        have x2 : XM im g g2 := x1.trans (XM.ex xp)
        have hm2 := xp.get hm1
        have env2 := envg.mono (x2.cx hmg)
        simp only [load_cell env2.q, OP_some]
        refine C23 env2.pl (by omega) (by omega) (by omega) hb1024 ?_
        rw [rdy_eq]
        simp only [un_not, OP_some]
        cases hr : rdyS bs s i with
        | false =>
          simp only [Bool.not_false, IfP_true]
          rw [q34z25]
          simp only [bin_add, OP_some, inc i (by omega), true_and]
          have hbs : bstep bs js s (fun i => minS bs js n (s ||| 2 ^ i)) (i + 1) = bstep bs js s (fun i => minS bs js n (s ||| 2 ^ i)) i := by
            simp [bstep, hr]
          have := hL (i + 1, es1, g2) ⟨by show i + 1 ≤ n; omega, x2, hm2, ok1, km1, fun j hj hrj => by
            by_cases hji : j = i
            · subst hji; rw [hr] at hrj; cases hrj
            · exact hnx j (by show j < i; simp only at hj; omega) hrj⟩ (by show n - (i + 1) < n - i; omega)
          simp only [hbs] at this
          exact this
        | true =>
          have hp2 : (2 : Nat) ^ i < 1024 := Nat.lt_of_lt_of_le (Nat.pow_lt_pow_right (by decide) (show i < 10 by omega)) (by decide)
          have hlw := hsF i
          have hcb := c_bound hsF s i
          have hw1 : IntKind.wrap .i64 (nowS js s + lenJ js i) = nowS js s + lenJ js i := wrap64 (by omega) (by omega)
          have hw2 : IntKind.wrap .i64 (weiJ js i * (nowS js s + lenJ js i)) = weiJ js i * (nowS js s + lenJ js i) := wrap64 (by omega) (by omega)
          have hlt2 := or_lt hs hin
          have hgt := lt_or_pow (rdyS_bit hr)
          simp only [Bool.not_true, IfP_false, fadr_pt, Nat.add_zero, Nat.zero_add, l0, l1, OP_some, bin_add, hw1, bin_mul, hw2, load_cell env2.c, shlK skU (show i < 11 by omega), orK skU (show s < 1024 by omega) hp2, true_and]
          refine callVP_fn ok34 ?_
          refine ih (s ||| 2 ^ i) (by unfold fullS at *; omega) hlt2 env2 hm2 ok1 ?_
          intro g3 es3 x3 hm3 ok3 km3 hin3
          have cx3 := x3.cx hm2
          have l0' := cx3.load l0
          have l1' := cx3.load l1
          have hmb := minS_bound hsF hn10 hu hlt2
          have hw3 : IntKind.wrap .i64 (weiJ js i * (nowS js s + lenJ js i) + minS bs js n (s ||| 2 ^ i)) = weiJ js i * (nowS js s + lenJ js i) + minS bs js n (s ||| 2 ^ i) := wrap64 (by omega) (by omega)
          simp only [l0', l1', true_and, bin_add, OP_some, hw3, bin_lss]
          have go : ∀ bst : Int, bstep bs js s (fun i => minS bs js n (s ||| 2 ^ i)) (i + 1) = bst → p34z25 Try.prog K (U s) (pt ox 0) (pt px 0) (pt cx 0) (I bst) (I (nowS js s)) vj (I n) (I i) L g3 := by
            intro bst hbst
            rw [q34z25]
            simp only [bin_add, OP_some, inc i (by omega), true_and]
            have := hL (i + 1, es3, g3) ⟨by show i + 1 ≤ n; omega, x2.trans x3, hm3, ok3, km1.trans km3, fun j hj hrj => by
              by_cases hji : j = i
              · subst hji; exact hin3
              · exact km3 _ (hnx j (by show j < i; simp only at hj; omega) hrj)⟩ (by show n - (i + 1) < n - i; omega)
            simp only [hbst] at this
            exact this
          rw [q34z22]
          by_cases hneg : bstep bs js s (fun i => minS bs js n (s ||| 2 ^ i)) i < 0
          · rw [decide_eq_true hneg]
            simp only [GdP_tf, q34z24, iPick_t, OP_some, IfP_true]
            exact go _ (by simp only [bstep, hr, if_true]; rw [if_pos (.inl hneg)])
          · rw [decide_eq_false hneg]
            simp only [GdP_ff, bin_lss, OP_some, q34z24, iPick_f, IfP_dec]
            refine ⟨fun hl => go _ ?_, fun hl => go _ ?_⟩
            · simp only [bstep, hr, if_true]; rw [if_pos (.inr hl)]
            · simp only [bstep, hr, if_true]; rw [if_neg (fun h9 => h9.elim hneg hl)]
      · have hie : i = n := by omega
        subst hie
        rw [q34z26]
        simp only [load_cell env1.o, OP_some, updI hm1, OH_some, ← minS_rec bs js i hsf]
        refine hk _ (setI (s : Int) (I (minS bs js i s)) es1) (x0.trans (x1.set _)) (set_get hm1) ⟨?_, ?_, ?_⟩ ?_ ?_
        · intro s' v' hv
          rw [findI_setI] at hv
          by_cases he : s' = s
          · rw [if_pos he] at hv
            injection hv with hv
            exact ⟨s, he, hs, hv.symm⟩
          · rw [if_neg he] at hv
            exact ok1.val _ _ hv
        · rw [findI_setI]
          split
          · rfl
          · exact ok1.full
        · intro s' hs' hin' j hj hrj
          rw [findI_setI] at hin' ⊢
          split
          · rfl
          · by_cases he : s' = s
            · subst he; exact hnx j hj hrj
            · rw [if_neg (by omega)] at hin'
              exact ok1.next s' hs' hin' j hj hrj
        · intro k hk2
          rw [findI_setI]
          split
          · rfl
          · exact km1 k hk2
        · rw [findI_setI, if_pos rfl]; rfl

end Go.Proofs.Ytipeennffbbglaa

/-
  The best order.
-/
namespace Go.Proofs.Ytipeennffbbglaa
open Go.Sim

theorem BS.up {ps : List (Int × Int)} {n : Nat} {bs : List Nat} (b : BS ps n bs) (hup : upP n ps) : goesUp bs n := by
  intro i hi j hj
  rw [b.bit i hi j] at hj
  have := hup _ (of_decide_eq_true hj)
  simp only at this
  omega

theorem BS.uniq {ps : List (Int × Int)} {n : Nat} {bs bs' : List Nat} (b : BS ps n bs) (b' : BS ps n bs') : bs = bs' := by
  apply List.ext_getElem
  · rw [b.len, b'.len]
  · intro i h1 h2
    have hi : i < n := by have := b.len; omega
    have e1 : bs.getD i 0 = bs[i] := by simp [List.getD_eq_getElem?_getD, h1]
    have e2 : bs'.getD i 0 = bs'[i] := by simp [List.getD_eq_getElem?_getD, h2]
    rw [← e1, ← e2]
    apply Nat.eq_of_testBit_eq
    intro j
    rw [b.bit i hi j, b'.bit i hi j]

theorem C25 {p : Value} {js : List (Int × Int)} {bs : List Nat} {n : Nat} {h : Heap} {K : Value → Heap → Prop} (hp : PL h p js bs) (hn : js.length = n) (hn10 : n ≤ 10) (hsm : smallJ js) (hbl : bs.length = n) (hb : ∀ b ∈ bs, b < 2 ^ n) (hu : goesUp bs n)
    (hk : ∀ im es h', EX h h' → h'[im]? = some (.imap .u16 es) → MapOK js bs n es → (findI ((0 : Nat) : Int) es).isSome = true → K (.map (some im)) h') : CallP Try.prog 25 [p] h K := by
  have hpt : ∃ i, p = pt i 0 := let ⟨i, _, _, e, _⟩ := hp; ⟨i, e⟩
  obtain ⟨i, rfl⟩ := hpt
  refine f25 ?_
  have bx : iBox 65 h (pt i 0) = some (pt h.length 0, h ++ [.arr 65 [pt i 0]]) := rfl
  have mk : ∀ g : Heap, iMkMapI .u16 g = some (.map (some g.length), g ++ [.imap .u16 []]) := fun _ => rfl
  simp only [T25, bx, OH_some, mk]
  have k0 : (h ++ [IObj.arr 65 [pt i 0]] ++ [.imap .u16 []])[h.length]? = some (.arr 65 [pt i 0]) := by simp
  have k1 : (h ++ [IObj.arr 65 [pt i 0]] ++ [.imap .u16 []])[h.length + 1]? = some (.imap .u16 []) := by simp
  have x1 : EX h (h ++ [IObj.arr 65 [pt i 0]] ++ [.imap .u16 []]) := (EX.append _ _).push _
  have e1 : (h ++ [IObj.arr 65 [pt i 0]]).length = h.length + 1 := by simp
  have e2 : (h ++ [IObj.arr 65 [pt i 0]] ++ [IObj.imap .u16 []]).length = h.length + 2 := by simp
  rw [e1]
  generalize h ++ [IObj.arr 65 [pt i 0]] ++ [.imap .u16 []] = g at k0 k1 x1 e2 ⊢
  have c0 : objCells g h.length = some [pt i 0] := by simp [objCells, k0]
  simp only [load_cell c0, OP_some]
  refine C22 (hp.mono x1) (by omega) ?_
  rw [hn, full_eq]
  have hup : oMupdI .u16 g (.map (some (h.length + 1))) (U (fullS n)) (.int .i64 0) = some (undef, g.set (h.length + 1) (.imap .u16 [((fullS n : Nat), I 0)])) := updI k1 _ _
  simp only [hup, OH_some]
  have y2 : EX h (g.set (h.length + 1) (.imap .u16 [(((fullS n : Nat) : Int), I 0)])) := x1.set (by omega) _
  have m0 : (g.set (h.length + 1) (.imap .u16 [(((fullS n : Nat) : Int), I 0)]))[h.length]? = some (.arr 65 [pt i 0]) := by rw [List.getElem?_set_ne (by omega)]; exact k0
  have m1 : (g.set (h.length + 1) (.imap .u16 [(((fullS n : Nat) : Int), I 0)]))[h.length + 1]? = some (.imap .u16 [(((fullS n : Nat) : Int), I 0)]) := set_get k1
  have ml : (g.set (h.length + 1) (.imap .u16 [(((fullS n : Nat) : Int), I 0)])).length = h.length + 2 := by rw [List.length_set]; exact e2
  generalize g.set (h.length + 1) (.imap .u16 [(((fullS n : Nat) : Int), I 0)]) = g2 at y2 m0 m1 ml ⊢
  have a72 : ∀ g : Heap, iAlloc 72 [(.map none)] g = some (pt g.length 0, g ++ [.arr 72 [.map none]]) := fun _ => rfl
  have a74 : ∀ g : Heap, iAlloc 74 [.nilFunc] g = some (pt g.length 0, g ++ [.arr 74 [.nilFunc]]) := fun _ => rfl
  have s72 : oStore 1 (g2 ++ [IObj.arr 72 [.map none]]) (pt (h.length + 2) 0) (.map (some (h.length + 1))) = some (undef, g2 ++ [.arr 72 [.map (some (h.length + 1))]]) := by
    rw [← ml]; simp [oStore, iStore, noTuple, vcells, Value.cells, setAt]
  simp only [a72, OH_some, ml, s72, a74, List.length_append, List.length_cons, List.length_nil, Nat.zero_add]
  have s74 : ∀ v : Value, noTuple v = true → vcells v = [v] → oStore 1 (g2 ++ [IObj.arr 72 [.map (some (h.length + 1))]] ++ [.arr 74 [.nilFunc]]) (pt (h.length + 2 + 1) 0) v = some (undef, g2 ++ [IObj.arr 72 [.map (some (h.length + 1))]] ++ [.arr 74 [v]]) := by
    intro v h1 h2
    have hl : (g2 ++ [IObj.arr 72 [.map (some (h.length + 1))]] ++ [.arr 74 [.nilFunc]])[h.length + 2 + 1]? = some (.arr 74 [.nilFunc]) := by
      have : h.length + 2 + 1 = (g2 ++ [IObj.arr 72 [.map (some (h.length + 1))]]).length := by simp [ml]
      rw [this]; simp
    rw [store_at hl (by simp) h1 h2]
    have : h.length + 2 + 1 = (g2 ++ [IObj.arr 72 [.map (some (h.length + 1))]]).length := by simp [ml]
    rw [this]
    simp
  rw [s74 _ rfl rfl]
  simp only [OH_some]
  have xx : EX g2 (g2 ++ [IObj.arr 72 [.map (some (h.length + 1))]] ++ [.arr 74 [.func (.func 34) #[] #[pt (h.length + 2) 0, pt h.length 0, pt (h.length + 2 + 1) 0]]]) := (EX.append _ _).push _
  have n2 : (g2 ++ [IObj.arr 72 [.map (some (h.length + 1))]] ++ [.arr 74 [.func (.func 34) #[] #[pt (h.length + 2) 0, pt h.length 0, pt (h.length + 2 + 1) 0]]])[h.length + 2]? = some (.arr 72 [.map (some (h.length + 1))]) := by
    rw [← ml]; simp
  have n3 : (g2 ++ [IObj.arr 72 [.map (some (h.length + 1))]] ++ [.arr 74 [.func (.func 34) #[] #[pt (h.length + 2) 0, pt h.length 0, pt (h.length + 2 + 1) 0]]])[h.length + 2 + 1]? = some (.arr 74 [.func (.func 34) #[] #[pt (h.length + 2) 0, pt h.length 0, pt (h.length + 2 + 1) 0]]) := by
    have : h.length + 2 + 1 = (g2 ++ [IObj.arr 72 [.map (some (h.length + 1))]]).length := by simp [ml]
    rw [List.getElem?_append_right (by omega), this]
    simp
  generalize g2 ++ [IObj.arr 72 [.map (some (h.length + 1))]] ++ [.arr 74 [.func (.func 34) #[] #[pt (h.length + 2) 0, pt h.length 0, pt (h.length + 2 + 1) 0]]] = g3 at xx n2 n3 ⊢
  have env : EnvC (h.length + 1) (h.length + 2) h.length (h.length + 2 + 1) (pt i 0) js bs g3 := by
    refine ⟨?_, ?_, ?_, hp.mono (y2.trans xx)⟩
    · simp [objCells, n2]
    · simp [objCells, xx.get m0]
    · simp [objCells, n3]
  simp only [load_cell env.c, OP_some]
  refine callVP_fn ok34 ?_
  have hpos : 0 < 2 ^ n := Nat.pow_pos (by decide)
  refine C34 hn hn10 hsm hbl hb hu (fullS n) 0 (by omega) hpos env (xx.get m1) ⟨?_, ?_, ?_⟩ ?_
  · intro s v hv
    simp only [findI] at hv
    split at hv
    · rename_i he
      injection hv with hv
      exact ⟨fullS n, he, by unfold fullS; omega, by rw [minS_full]; exact hv.symm⟩
    · cases hv
  · simp [findI]
  · intro s hs hin
    simp only [findI] at hin
    rw [if_neg (by omega)] at hin
    cases hin
  · intro h' es' x3 hm3 ok3 _ hin3
    have env3 := env.mono (x3.cx (xx.get m1))
    simp only [load_cell env3.o, OP_some]
    refine hk _ es' h' ?_ hm3 ok3 hin3
    refine ⟨Nat.le_trans (y2.trans xx).1 x3.1, fun d hd => ?_⟩
    rw [x3.2 d (Nat.lt_of_lt_of_le hd (y2.trans xx).1) (by omega)]
    exact (y2.trans xx).2 d hd

theorem endF_now {bs : List Nat} {n : Nat} (js : List (Int × Int)) (hn : n ≤ 10) : ∀ {l : List Nat} {s : Nat}, okO bs n s l = true → endF js (nowS js s) l = nowS js (stO s l)
  | [], s, _ => rfl
  | i :: l, s, h => by
    simp only [okO, Bool.and_eq_true, decide_eq_true_eq] at h
    simp only [endF, stO]
    rw [← now_step js (show i < 10 by omega) (rdyS_bit h.1.2)]
    exact endF_now js hn h.2

theorem lenJ_ones {i : Nat} (hi : i < 10) : lenJ (List.replicate 10 (1, 0)) i = 1 := by
  unfold lenJ
  rw [List.getD_eq_getElem?_getD, List.getElem?_replicate, if_pos hi]; rfl

theorem endF_ones : ∀ (l : List Nat) (x : Int), (∀ i ∈ l, i < 10) → endF (List.replicate 10 (1, 0)) x l = x + l.length
  | [], x, _ => by simp [endF]
  | i :: l, x, hx => by
    have hi : i < 10 := hx i (by simp)
    have e := lenJ_ones hi
    simp only [endF, e, endF_ones l _ fun j hj => hx j (by simp [hj]), List.length_cons]
    omega

theorem ok_len10 {bs : List Nat} {n : Nat} (hn : n ≤ 10) {l : List Nat} (h : okO bs n 0 l = true) : l.length ≤ 10 := by
  have h1 := endF_now (List.replicate 10 (1, 0)) hn h
  rw [now_zero, endF_ones l 0 fun i hi => Nat.lt_of_lt_of_le (okO_lt h i hi) hn] at h1
  have h7 : ∀ (s m : Nat), sumL (listS' s m) (lenJ (List.replicate 10 (1, 0))) ≤ m := by
    intro s m
    induction m with
    | zero => simp [listS', sumL]
    | succ m ih =>
      have : lenJ (List.replicate 10 (1, 0)) m ≤ 1 := by
        by_cases hm : m < 10
        · rw [lenJ_ones hm]; omega
        · simp only [lenJ, List.getD_eq_getElem?_getD]
          rw [List.getElem?_eq_none (by simp; omega)]
          simp
      simp only [listS']
      split
      · simp only [sumL_append, sumL]; omega
      · omega
  have := h7 (stO 0 l) 10
  unfold nowS at h1
  omega

theorem ok_length {bs : List Nat} {n : Nat} (hn : n ≤ 10) {l : List Nat} (h : okO bs n 0 l = true) (hf : stO 0 l = fullS n) : l.length = n := by
  have h1 := endF_now (List.replicate 10 (1, 0)) hn h
  rw [hf, now_zero] at h1
  rw [endF_ones l 0 fun i hi => Nat.lt_of_lt_of_le (okO_lt h i hi) hn] at h1
  have h3 : ∀ n, n ≤ 10 → nowS (List.replicate 10 (1, 0)) (fullS n) = n := by
    intro n hn
    match n, hn with
    | 0, _ => decide
    | 1, _ => decide
    | 2, _ => decide
    | 3, _ => decide
    | 4, _ => decide
    | 5, _ => decide
    | 6, _ => decide
    | 7, _ => decide
    | 8, _ => decide
    | 9, _ => decide
    | 10, _ => decide
    | n + 11, h => omega
  rw [h3 n hn] at h1
  omega

theorem OwnS.ns {b : Nat} {g : Heap} {v : Value} {l : List Nat} (o : OwnS b g 3 v (l.map fun i : Nat => I i)) (hl : l.length ≤ 1000) : NS g v .i64 (l.map fun i : Nat => (i : Int)) := by
  rcases o with ⟨h1, h2⟩ | ⟨a, _, h2, h3⟩
  · have : l = [] := by simpa using h2
    rw [this, h1]
    exact NS.nil g .i64
  · rw [h2, List.length_map]
    have := NS.sl (h := g) (e := 3) (i := a) (k := .i64) (ns := l.map fun i : Nat => (i : Int)) (.inr (by simp [objCells, h3])) (by simp [maxLen]; omega)
    rw [List.length_map] at this
    exact this

/-- The best order is in order, and costs the least. -/
theorem C8 {vj vp : Value} {js ps : List (Int × Int)} {n : Nat} {h : Heap} {K : Value → Heap → Prop} (hj : PS h vj js) (hp : PS h vp ps) (hn : js.length = n) (h1 : 1 ≤ n) (h10 : n ≤ 10) (h40 : ps.length ≤ 40) (hsm : smallJ js) (hup : upP n ps)
    (hk : ∀ v h' bs l, EX h h' → BS ps n bs → NS h' v .i64 (l.map fun i : Nat => (i : Int)) → okO bs n 0 l = true → stO 0 l = fullS n → l.length = n → costF js 0 l = minS bs js n 0 → K (.tuple #[v, I (costF js 0 l), I 0]) h') : CallP Try.prog 8 [vj, vp] h K := by
  refine f8 (C21 hj hp (by omega) (by omega) h40 hsm (by rw [hn]; exact hup) ?_)
  intro p g bs xg hpl hbs
  rw [hn] at hbs
  have hbl := hbs.len
  have hu := hbs.up hup
  have hsF : smallF js := hsm.all
  have h2n : (2 : Nat) ^ n ≤ 2 ^ 10 := Nat.pow_le_pow_right (by decide) h10
  have hb1024 : ∀ b ∈ bs, b < 1024 := fun b hb => Nat.lt_of_lt_of_le (hbs.lt b hb) h2n
  have hpos : 0 < 2 ^ n := Nat.pow_pos (by decide)
  simp only [ext_tuple, pair0, pair1, OP_some, un_not, Bool.not_true, IfP_false]
  refine C25 hpl hn h10 hsm hbl hbs.lt hu ?_
  intro im es g2 xg2 hm ok hin0
  have hjg := hj.mono (xg.trans xg2)
  refine loopL (σ := List Nat × Value × Heap) (fun q => [q.2.1, U (stO 0 q.1)]) (fun q => q.2.2)
    (fun q => EX g2 q.2.2 ∧ OwnS g2.length q.2.2 3 q.2.1 (q.1.map fun i : Nat => I i) ∧ okO bs n 0 q.1 = true ∧ (findI ((stO 0 q.1 : Nat) : Int) es).isSome = true ∧ costF js 0 q.1 + minS bs js n (stO 0 q.1) = minS bs js n 0) (fun q => 2 ^ n - stO 0 q.1)
    ([], .slice none 0 0, g2) rfl rfl ⟨EX.refl _, .inl ⟨rfl, rfl⟩, rfl, hin0, by simp [costF, stO]⟩ ?_
  rintro ⟨l, v, g3⟩ ⟨x3, own, hok, hin, hcost⟩ L hL
  simp only at x3 own hok hin hcost hL ⊢
  have hs : stO 0 l < 2 ^ n := stO_lt hpos (okO_lt hok)
  have hpl3 := (hpl.mono xg2).mono x3
  have hm3 := x3.get hm
  have hend := endF_now js h10 hok
  rw [now_zero] at hend
  rw [q8z11]
  refine C22 hpl3 (by omega) ?_
  rw [hn, full_eq]
  have hbr := minS_bound hsF h10 hu hpos
  simp only [bin_neq, OP_some]
  refine IfP_of (fun hne => ?_) fun heq => ?_
  · have hne : ¬ stO 0 l = fullS n := by
      intro he
      rw [he] at hne
      simp at hne
    have hsf : stO 0 l < fullS n := by unfold fullS at *; omega
    refine C26 hpl3 hsm (by omega) (by rw [hn]; exact hs) ?_
    intro g4 xg4
    have hnow : sumJ js (listS (stO 0 l) 10) = nowS js (stO 0 l) := by
      have : ∀ s m, listS s m = listS' s m := by
        intro s m
        induction m with
        | zero => rfl
        | succ m ih => simp only [listS, listS', ih]
      unfold sumJ nowS
      rw [this]; rfl
    rw [hnow]
    have hspec := minS_spec hsF h10 hu hsf
    generalize hsd : stO 0 l = s at *
    have hnb := now_bound hsF s
    simp only [hjg.len, OP_some, hn]
    refine loopL (σ := Nat × Heap) (fun q => [v, U s, I q.1]) (fun q => q.2) (fun q => q.1 ≤ n ∧ EX g4 q.2 ∧ ∀ i, i < q.1 → ¬ (rdyS bs s i = true ∧ weiJ js i * (nowS js s + lenJ js i) + minS bs js n (s ||| 2 ^ i) = minS bs js n s)) (fun q => n - q.1) (0, g4) rfl rfl ⟨Nat.zero_le _, EX.refl _, fun i hi => by omega⟩ ?_
    rintro ⟨i, g5⟩ ⟨hi, x5, hno⟩ L2 hL2
    simp only at hi x5 hno hL2 ⊢
    have x35 := xg4.trans x5
    have hpl5 := hpl3.mono x35
    rw [q8z18]
    simp only [bin_lss, OP_some, IfP_dec]
    refine ⟨fun hlt => ?_, fun hge => ?_⟩
    · have hin2 : i < n := by omega
      obtain ⟨b, o, r1, r2, r3, r4⟩ := PS.getD (hjg.mono (x3.trans x35)) (show i < js.length by omega)
      have e30 : ∀ g : Heap, iAlloc 30 [(.int .i64 (0)), (.int .i64 (0))] g = some (pt g.length 0, g ++ [.arr 30 [I 0, I 0]]) := fun _ => rfl
      have st2 : ∀ (g : Heap) (t : TypeId) (a b : Int), oStore 2 (g ++ [.arr t [I 0, I 0]]) (pt g.length 0) (.agg #[I a, I b]) = some (undef, g ++ [.arr t [I a, I b]]) := by
        intro g t a b
        simp [oStore, iStore, noTuple, vcells, Value.cells, setAt]
      simp only [r1, r4, OP_some, e30, OH_some, st2]
      have l0 : iLoad false 1 (g5 ++ [IObj.arr 30 [I (js.getD i (0, 0)).1, I (js.getD i (0, 0)).2]]) (pt g5.length 0) = some (I (js.getD i (0, 0)).1) := load_last rfl
      have l1 : iLoad false 1 (g5 ++ [IObj.arr 30 [I (js.getD i (0, 0)).1, I (js.getD i (0, 0)).2]]) (pt g5.length 1) = some (I (js.getD i (0, 0)).2) := load_last rfl
      have xp : EX g5 (g5 ++ [IObj.arr 30 [I (js.getD i (0, 0)).1, I (js.getD i (0, 0)).2]]) := EX.append _ _
      have hll : (js.getD i (0, 0)).1 = lenJ js i := rfl
      have hww : (js.getD i (0, 0)).2 = weiJ js i := rfl
      rw [hll, hww] at l0 l1 xp ⊢
      generalize g5 ++ [IObj.arr 30 [I (lenJ js i), I (weiJ js i)]] = g6 at l0 l1 xp ⊢
      have hm6 := (x35.trans xp).get hm3
      refine C23 (hpl5.mono xp) (by omega) (by omega) (by omega) hb1024 ?_
      rw [rdy_eq]
      have skip : (¬ (rdyS bs s i = true ∧ weiJ js i * (nowS js s + lenJ js i) + minS bs js n (s ||| 2 ^ i) = minS bs js n s)) → (OP (iBin .add (I i) (.int .i64 (1))) fun x71 =>
          ([vj, p, .map (some im), I (nowS js s), vj, I n] : List Value) = [vj, p, .map (some im), I (nowS js s), vj, I n] ∧ L2 [v, U s, x71] g6) := by
        intro hneg
        simp only [bin_add, OP_some, inc i (by omega), true_and]
        exact hL2 (i + 1, g6) ⟨by show i + 1 ≤ n; omega, x5.trans xp, fun j hj => by
          by_cases hji : j = i
          · subst hji; exact hneg
          · exact hno j (by show j < i; simp only at hj; omega)⟩ (by show n - (i + 1) < n - i; omega)
      cases hr : rdyS bs s i with
      | false =>
        simp only [GdP_ft, iPick_f, OP_some, IfP_false, true_and]
        have := skip (by rw [hr]; rintro ⟨h9, _⟩; cases h9)
        simp only [bin_add, OP_some, true_and] at this ⊢
        exact this
      | true =>
        have hp2 : (2 : Nat) ^ i < 1024 := Nat.lt_of_lt_of_le (Nat.pow_lt_pow_right (by decide) (show i < 10 by omega)) (by decide)
        have hlw := hsF i
        have hcb := c_bound hsF s i
        have hlt2 := or_lt hs hin2
        have hmb := minS_bound hsF h10 hu hlt2
        have hw1 : IntKind.wrap .i64 (nowS js s + lenJ js i) = nowS js s + lenJ js i := wrap64 (by omega) (by omega)
        have hw2 : IntKind.wrap .i64 (weiJ js i * (nowS js s + lenJ js i)) = weiJ js i * (nowS js s + lenJ js i) := wrap64 (by omega) (by omega)
        have hw3 : IntKind.wrap .i64 (weiJ js i * (nowS js s + lenJ js i) + minS bs js n (s ||| 2 ^ i)) = weiJ js i * (nowS js s + lenJ js i) + minS bs js n (s ||| 2 ^ i) := wrap64 (by omega) (by omega)
        have hinx := ok.next s hsf hin i hin2 hr
        simp only [GdP_tt, fadr_pt, Nat.add_zero, Nat.zero_add, l0, l1, OP_some, bin_add, hw1, bin_mul, hw2, shlK skU (show i < 11 by omega), orK skU (show s < 1024 by omega) hp2, lookI' hm6, ok.look hin, ok.look hinx, Option.getD_some, hw3, bin_eql, iPick_t, true_and]
        refine IfP_of (fun he => ?_) fun hne2 => ?_
        · have he : weiJ js i * (nowS js s + lenJ js i) + minS bs js n (s ||| 2 ^ i) = minS bs js n s := of_decide_eq_true he
          have hok2 : okO bs n 0 (l ++ [i]) = true := by
            rw [okO_append, hok, hsd]
            simp [okO, hin2, hr]
          have hs2 : stO 0 (l ++ [i]) = s ||| 2 ^ i := by
            rw [stO_append, hsd]; rfl
          have hll : l.length ≤ 10 := ok_len10 h10 hok
          refine app1 (h0 := g2) (xs := l.map fun i : Nat => I i) (OwnS.keep own fun d m hv hd => ?_) (x3.trans (x35.trans xp)) (by simp; omega) (by simp [maxLen]; omega) rfl rfl ?_
          · obtain ⟨_, q2, _⟩ := own.lt hv
            exact (x35.trans xp).2 d q2
          · intro v' g7 x7 own7
            have hce := costF_append js 0 l [i]
            have e1 : costF js (endF js 0 l) [i] = weiJ js i * (nowS js s + lenJ js i) := by
              rw [hend]; simp [costF]
            have := hL (l ++ [i], v', g7) ⟨x7, by simpa using own7, hok2, by show (findI ((stO 0 (l ++ [i]) : Nat) : Int) es).isSome = true; rw [hs2]; exact hinx, by
              show costF js 0 (l ++ [i]) + minS bs js n (stO 0 (l ++ [i])) = minS bs js n 0
              rw [hs2, hce, e1]; omega⟩ (by
              show 2 ^ n - stO 0 (l ++ [i]) < 2 ^ n - s
              rw [hs2]
              have := lt_or_pow (rdyS_bit hr)
              omega)
            simp only [hs2] at this
            exact this
        · have h9 := skip fun h9 => (of_decide_eq_false hne2) h9.2
          simp only [bin_add, OP_some, true_and] at h9 ⊢
          exact h9
    · exfalso
      have hie : i = n := by omega
      subst hie
      obtain ⟨⟨j, j1, j2, j3⟩, _⟩ := hspec
      exact hno j j1 ⟨j2, j3.symm⟩
  · have he : stO 0 l = fullS n := by
      have h9 : ¬ ¬ ((stO 0 l : Nat) : Int) = ((fullS n : Nat) : Int) := by
        intro h9
        simp [h9] at heq
      have := Classical.not_not.1 h9
      omega
    have hlen := ok_length h10 hok he
    rw [q8z26]
    have z : (.int .u16 0 : Value) = U 0 := rfl
    rw [z]
    simp only [lookI' hm3, ok.look hin0, Option.getD_some, OP_some, true_and]
    rw [he, minS_full] at hcost
    have hc : costF js 0 l = minS bs js n 0 := by omega
    rw [← hc]
    exact hk v g3 bs l (xg.trans (xg2.trans x3)) hbs (own.ns (by omega)) hok he hlen hc

end Go.Proofs.Ytipeennffbbglaa

/-
  The number of orders of a seam's letters is the number of its ways.
-/
namespace Go.Proofs.Ytipeennffbbglaa
open Go.Sim

theorem sum_rsum (f : Nat → Nat) : ∀ m, (((List.range m).map f).sum : Int) = rsum m fun a => (f a : Int)
  | 0 => rfl
  | m + 1 => by
    rw [List.range_succ, List.map_append, List.sum_append, Int.natCast_add, sum_rsum f m]
    simp [rsum]

theorem lefts_ways {fr : UInt8 → UInt8 → Bool} (hs : ∀ a b, fr a b = fr b a) (hself : ∀ a, a < 6 → fr (lt a) (lt a) = false) {s : List UInt8} (ls : letters 6 s) {bs : List Nat} (hw : waits fr s bs) :
    ∀ (f S : Nat), (remS s S).length = f → S < 2 ^ s.length → lefts bs s.length S = (waysN fr f (leastF fr 6 f (remS s S)) : Nat)
  | 0, S, hl, hS => by
    have h1 : S = fullS s.length := (remS_full hS).1 (List.length_eq_zero_iff.1 hl)
    rw [h1, lefts_full]
    rfl
  | f + 1, S, hl, hS => by
    have hSf : S < fullS s.length := by
      have : S ≠ fullS s.length := by
        intro h
        have := (remS_full hS).2 h
        rw [this] at hl
        cases hl
      unfold fullS at *; omega
    have lw := remS_letters ls S
    have hwl : (remS s S).length = f + 1 := hl
    rw [lefts_rec bs s.length hSf, ready_sum hw S fun i => lefts bs s.length (S ||| 2 ^ i)]
    have e1 : (rsum (remS s S).length fun k => if isF fr (remS s S) k = true then lefts bs s.length (S ||| 2 ^ (posR s.length S).getD k 0) else 0) =
        rsum (remS s S).length fun k => if isF fr (remS s S) k = true then ((waysN fr f (leastF fr 6 f (without (remS s S) k)) : Nat) : Int) else 0 := by
      refine rsum_congr fun k hk => ?_
      split
      · have hk' : k < (posR s.length S).length := by rw [← remS_length]; exact hk
        have e : (posR s.length S).getD k 0 = (posR s.length S)[k] := by simp [List.getD_eq_getElem?_getD, hk']
        have hm := (posR_mem.1 (List.getElem_mem hk')).1
        rw [e, ← remS_step hk']
        refine lefts_ways hs hself ls hw f _ ?_ (or_lt hS hm)
        rw [remS_step hk']
        have := without_length hk
        omega
      · rfl
    rw [e1, ← first_sum lw hself fun k => ((waysN fr f (leastF fr 6 f (without (remS s S) k)) : Nat) : Int)]
    have hL := leastF_letters (fr := fr) lw hwl
    have heq : eqv fr 6 (leastF fr 6 (f + 1) (remS s S)) (remS s S) := by
      have := eqv_least hs lw
      rw [hwl] at this
      exact this
    have e3 : (waysN fr (f + 1) (leastF fr 6 (f + 1) (remS s S)) : Int) = rsum 6 fun a => (waysT fr f (leastF fr 6 (f + 1) (remS s S)) a : Int) := sum_rsum _ 6
    rw [e3]
    refine rsum_congr fun a ha => ?_
    unfold waysT
    cases h1 : firstAt fr (lt a) (remS s S) 0 with
    | none =>
      cases h2 : firstAt fr (lt a) (leastF fr 6 (f + 1) (remS s S)) 0 with
      | none => rfl
      | some i =>
        obtain ⟨j, hj⟩ := eqv_first hL.1 lw heq ha ⟨i, h2⟩
        rw [h1] at hj; cases hj
    | some i =>
      obtain ⟨j, hj⟩ := eqv_first lw hL.1 heq.symm ha ⟨i, h1⟩
      rw [hj]
      have e2 := eqv_without hs heq hj h1
      have l1 : (without (leastF fr 6 (f + 1) (remS s S)) j).length = f := by
        have := without_length (firstAt_lt' hj)
        omega
      have l2 : (without (remS s S) i).length = f := by
        have := without_length (firstAt_lt' h1)
        omega
      have := (eqv_iff hs (letters_without hL.1 j) (letters_without lw i)).1 e2
      rw [l1, l2] at this
      show ((waysN fr f (leastF fr 6 f (without (remS s S) i)) : Nat) : Int) = ((waysN fr f (leastF fr 6 f (without (leastF fr 6 (f + 1) (remS s S)) j)) : Nat) : Int)
      rw [this]

/-- The pairs of letters that do not commute, the first one first. -/
structure Bef (ps : List (Int × Int)) (s : List UInt8) (bp : List (Int × Int)) : Prop where
  up : upP s.length bp
  mem : ∀ i, i < s.length → ∀ j : Nat, ((j : Int), (i : Int)) ∈ bp ↔ j < i ∧ freeP ps (s.getD j 0) (s.getD i 0) = false

theorem Bef.waits {ps : List (Int × Int)} {s : List UInt8} {bp : List (Int × Int)} (b : Bef ps s bp) {bs : List Nat} (hb : BS bp s.length bs) : waits (freeP ps) s bs := by
  intro i hi j
  rw [hb.bit i hi j]
  have := b.mem i hi j
  rw [Bool.eq_iff_iff]
  simp [this]

theorem lefts_eq {ps : List (Int × Int)} {n : Nat} (ht : threadsOk n ps = true) {s : List UInt8} (ls : letters 6 s) {bp : List (Int × Int)} (b : Bef ps s bp) {bs : List Nat} (hb : BS bp s.length bs) : lefts bs s.length 0 = (waysN (freeP ps) s.length (Lst ps s) : Nat) := by
  have := lefts_ways (freeP_symm ps) (fun a ha => freeP_self ht ha) ls (b.waits hb) s.length 0 (by rw [remS_zero]) (Nat.pow_pos (by decide))
  rw [remS_zero] at this
  exact this

/-- Letters by an order. -/
def byO (s : List UInt8) (l : List Nat) : List UInt8 := l.map fun i => s.getD i 0

theorem byO_letters {s : List UInt8} {m : Nat} (ls : letters m s) {l : List Nat} (hl : ∀ i ∈ l, i < s.length) : letters m (byO s l) := by
  intro c hc
  obtain ⟨i, hi, rfl⟩ := List.mem_map.1 hc
  rw [getD_of (List.getElem?_eq_getElem (hl i hi))]
  exact ls _ (List.getElem_mem _)

theorem byO_eq {ps : List (Int × Int)} {n : Nat} (ht : threadsOk n ps = true) {s : List UInt8} (ls : letters 6 s) {bp : List (Int × Int)} (b : Bef ps s bp) {bs : List Nat} (hb : BS bp s.length bs) {l : List Nat} (hok : okO bs s.length 0 l = true) (hf : stO 0 l = fullS s.length) : Lst ps s = Lst ps (byO s l) := by
  have := order_eqv (freeP_symm ps) (fun a ha => freeP_self ht ha) ls (b.waits hb) (Nat.pow_pos (by decide)) hok hf
  rw [remS_zero] at this
  exact (Lst_iff ls (byO_letters ls (okO_lt hok))).1 this.symm

theorem hts_getD {fr : UInt8 → UInt8 → Bool} : ∀ {s : List UInt8} {i : Nat}, i < s.length → ∀ j, j < i → fr (s.getD j 0) (s.getD i 0) = false → (((htsF fr s).map fun p => (p.2 : Int)).getD j 0) < ((htsF fr s).map fun p => (p.2 : Int)).getD i 0 := by
  intro s
  refine snocInd (p := fun s => ∀ {i : Nat}, i < s.length → ∀ j, j < i → fr (s.getD j 0) (s.getD i 0) = false → (((htsF fr s).map fun p => (p.2 : Int)).getD j 0) < ((htsF fr s).map fun p => (p.2 : Int)).getD i 0) ?_ ?_ s
  · intro i hi; simp at hi
  · intro s c ih i hi j hj hf
    rw [List.length_append, List.length_singleton] at hi
    have hlen := htsF_length (fr := fr) s
    rw [htsF_snoc, List.map_append]
    have left : ∀ q, q < s.length → ((htsF fr s).map (fun p => (p.2 : Int)) ++ [(c, nextH fr (htsF fr s) c)].map fun p => (p.2 : Int)).getD q 0 = ((htsF fr s).map fun p => (p.2 : Int)).getD q 0 := by
      intro q hq
      simp only [List.getD_eq_getElem?_getD]
      rw [List.getElem?_append_left (by simpa [hlen] using hq)]
    have gs : ∀ q, q < s.length → (s ++ [c]).getD q 0 = s.getD q 0 := by
      intro q hq
      simp only [List.getD_eq_getElem?_getD]
      rw [List.getElem?_append_left hq]
    by_cases hil : i < s.length
    · rw [left i hil, left j (by omega)]
      rw [gs i hil, gs j (by omega)] at hf
      exact ih hil j hj hf
    · have hie : i = s.length := by omega
      subst hie
      rw [left j hj]
      have er : ((htsF fr s).map (fun p => (p.2 : Int)) ++ [(c, nextH fr (htsF fr s) c)].map fun p => (p.2 : Int)).getD s.length 0 = (nextH fr (htsF fr s) c : Int) := by
        simp only [List.getD_eq_getElem?_getD]
        rw [List.getElem?_append_right (by simp [hlen])]
        simp [hlen]
      rw [er]
      have ec : (s ++ [c]).getD s.length 0 = c := by simp
      rw [ec, gs j hj] at hf
      have hjl : j < (htsF fr s).length := by omega
      have hfst : (htsF fr s)[j].1 = s.getD j 0 := by
        have h9 := htsF_fst (fr := fr) s
        have : ((htsF fr s).map Prod.fst)[j]? = s[j]? := by rw [h9]
        simp only [List.getElem?_map, List.getElem?_eq_getElem hjl, List.getElem?_eq_getElem hj, Option.map_some, Option.some.injEq] at this
        rw [this, getD_of (List.getElem?_eq_getElem hj)]
      have := nextH_ge (fr := fr) (c := c) (List.getElem_mem hjl) (by rw [hfst]; exact hf)
      have e : ((htsF fr s).map fun p => (p.2 : Int)).getD j 0 = ((htsF fr s)[j].2 : Int) := by
        simp [List.getD_eq_getElem?_getD, hjl]
      rw [e]
      omega

/-- The steps in turn, each by number, are an order. -/
theorem steps_ok {ps : List (Int × Int)} {s : List UInt8} {bp : List (Int × Int)} (b : Bef ps s bp) {bs : List Nat} (hb : BS bp s.length bs) : okO bs s.length 0 (stepO (hl ps s) s.length s.length) = true ∧ stO 0 (stepO (hl ps s) s.length s.length) = fullS s.length := by
  have hw := b.waits hb
  refine stepO_ok ?_ ?_
  · intro q hq
    have hql : q < (htsF (freeP ps) s).length := by rw [htsF_length]; exact hq
    have := htsF_le (freeP ps) s _ (List.getElem_mem hql)
    have e : (hl ps s).getD q 0 = ((htsF (freeP ps) s)[q].2 : Int) := by
      unfold hl; simp [List.getD_eq_getElem?_getD, hql]
    rw [e]; omega
  · intro i hi j hj
    rw [hw i hi j, Bool.and_eq_true, decide_eq_true_eq] at hj
    refine ⟨hj.1, hts_getD hi j hj.1 (by simpa using hj.2)⟩

end Go.Proofs.Ytipeennffbbglaa

/-
  The law TopOrders, first half: threads, jobs, and what is before what.
-/
namespace Go.Proofs.Ytipeennffbbglaa
open Go.Sim

/-- One pair of numbers more. -/
theorem app_p2 {hx : Heap} {e : TypeId} {id : Nat} {ps : List (Int × Int)} {a b : Int} {K : Value → Heap → Prop} (hg : hx[id]? = some (.arr e (pcells ps))) (hl : ps.length ≤ 1000)
    (hk : ∀ id' hx', hx.length ≤ id' → XM id hx hx' → hx'[id']? = some (.arr e (pcells (ps ++ [(a, b)]))) → K (sl e id' 0 (ps ++ [(a, b)]).length) hx') :
    OH (iMkSl e 1 [.int .i64 0, .int .i64 0] hx [(0, 2, .agg #[I a, I b])]) fun x37 h_1 => OH (iApp e 2 16 h_1 (sl e id 0 ps.length) x37) K := by
  have e1 : iMkSl e 1 [.int .i64 0, .int .i64 0] hx [(0, 2, .agg #[I a, I b])] = some (sl e hx.length 0 1, hx ++ [.arr e [I a, I b]]) := rfl
  simp only [e1, OH_some]
  have e2 : sliceCells (hx ++ [.arr e [I a, I b]]) 2 (sl e hx.length 0 1) = some [I a, I b] := by simp [sliceCells, sl, objCells]
  have e3 : lenOfSl (sl e hx.length 0 1) = some 1 := rfl
  have hlt := (List.getElem?_eq_some_iff.1 hg).1
  have hg' : (hx ++ [.arr e [I a, I b]])[id]? = some (.arr e (pcells ps)) := by rw [List.getElem?_append_left hlt]; exact hg
  have hpl := pcells_length ps
  have hpp : pcells (ps ++ [(a, b)]) = pcells ps ++ [I a, I b] := by simp [pcells]
  refine OH_of (v := sl e (hx.length + 1) 0 (ps ++ [(a, b)]).length) (h := (hx ++ [IObj.arr e [I a, I b]]).set id IObj.dead ++ [IObj.arr e (pcells (ps ++ [(a, b)]))]) ?_
    (hk _ _ (by omega) (((XM.ex (EX.append _ _)).set _).trans (XM.ex (EX.append _ _))) (by rw [List.getElem?_append_right (by simp)]; simp))
  simp only [iApp, e2, e3]
  simp only [sl, hg']
  rw [if_pos ⟨trivial, trivial, by omega, by omega, by unfold maxLen; omega⟩, if_neg (by omega), hpp]
  simp

theorem xmE {a h h' : Heap} {id : Nat} (k : EX a h) (hid : a.length ≤ id) (x : XM id h h') : EX a h' :=
  ⟨Nat.le_trans k.1 x.1, fun d hd => by rw [x.2 d (Nat.lt_of_lt_of_le hd k.1) (by omega)]; exact k.2 d hd⟩

theorem bld (a b : Int) : iBuild [(.int .i64 (0)), (.int .i64 (0))] [(0, 1, I a), (1, 1, I b)] = some (.agg #[I a, I b]) := rfl

/-- Some bit of a number. -/
theorem bit_some (f : Int) (a : Nat) {A : Value → Prop} (h : ∀ b, A (B b)) : OP (iBin .shr (.int .u16 f) (I a)) fun x49 => OP (iBin .and x49 (.int .u16 (1))) fun x50 => OP (iBin .eql x50 (.int .u16 (1))) A := by
  have e1 : ∃ z, iBin .shr (.int .u16 f) (I a) = some (.int .u16 z) := by
    simp only [iBin, iShift]
    rw [if_neg (by omega)]
    exact ⟨_, rfl⟩
  obtain ⟨z, hz⟩ := e1
  have e2 : ∃ y, iBin .and (.int .u16 z) (.int .u16 1) = some (.int .u16 y) := by simp [iBin, iInt]
  obtain ⟨y, hy⟩ := e2
  simp only [hz, OP_some, hy, bin_eql]
  exact h _

/-- The pairs that commute: of four letters. -/
structure Prs (h0 g : Heap) (v : Value) (ps : List (Int × Int)) : Prop where
  mem : ∀ p ∈ ps, 0 ≤ p.1 ∧ p.1 < p.2 ∧ p.2 < 4
  obj : ∃ id, h0.length ≤ id ∧ v = sl 26 id 0 ps.length ∧ g[id]? = some (.arr 26 (pcells ps))

theorem stA {h : Heap} {f : Int} {x1 : Value} {K : Value → Heap → Prop}
    (hk : ∀ v ps g, EX h g → Prs h g v ps → ps.length ≤ 30 → p3z23 Try.prog K x1 (I 4) v g) : CallP Try.prog 3 [.int .u16 f, x1] h K := by
  refine f3 ?_
  have mk : iMkSl 26 0 [.int .i64 0, .int .i64 0] h [] = some (sl 26 h.length 0 0, h ++ [.arr 26 []]) := rfl
  simp only [T3, mk, OH_some]
  refine loopL (σ := Nat × Nat × List (Int × Int) × Value × Heap) (fun q => [q.2.2.2.1, I q.2.1, I q.1]) (fun q => q.2.2.2.2)
    (fun q => q.1 ≤ 4 ∧ q.2.1 ≤ 4 * q.1 ∧ EX h q.2.2.2.2 ∧ Prs h q.2.2.2.2 q.2.2.2.1 q.2.2.1 ∧ q.2.2.1.length ≤ q.2.1) (fun q => 4 - q.1) (0, 0, [], sl 26 h.length 0 0, h ++ [.arr 26 []]) rfl rfl
    ⟨by simp, by simp, EX.append _ _, ⟨by simp, h.length, Nat.le_refl _, rfl, by simp [pcells]⟩, by simp⟩ ?_
  rintro ⟨i, at', ps, v, g⟩ ⟨hi, hat, xg, hp, hpl⟩ L hL
  simp only at hi hat xg hp hpl hL ⊢
  have k4 : (.int .i64 4 : Value) = I ((4 : Nat) : Int) := rfl
  rw [q3z6]
  simp only [k4, bin_lss, OP_some, IfP_dec]
  refine ⟨fun hlt => ?_, fun hge => ?_⟩
  · have hi4 : i < 4 := by omega
    simp only [bin_add, OP_some, inc i (by omega)]
    refine loopL (σ := Nat × Nat × List (Int × Int) × Value × Heap) (fun q => [q.2.2.2.1, I q.2.1, I q.1]) (fun q => q.2.2.2.2)
      (fun q => i < q.1 ∧ q.1 ≤ 4 ∧ q.2.1 ≤ 4 * i + (q.1 - 1) ∧ EX h q.2.2.2.2 ∧ Prs h q.2.2.2.2 q.2.2.2.1 q.2.2.1 ∧ q.2.2.1.length ≤ q.2.1) (fun q => 4 - q.1) (i + 1, at', ps, v, g) rfl rfl
      ⟨by show i < i + 1; omega, by show i + 1 ≤ 4; omega, by show at' ≤ 4 * i + (i + 1 - 1); omega, xg, hp, hpl⟩ ?_
    rintro ⟨j, at2, ps2, v2, g2⟩ ⟨hij, hj, hat2, xg2, hp2, hpl2⟩ L2 hL2
    simp only at hij hj hat2 xg2 hp2 hpl2 hL2 ⊢
    rw [q3z13]
    simp only [bin_lss, OP_some, IfP_dec]
    refine ⟨fun hlt2 => ?_, fun hge2 => ?_⟩
    · have hj4 : j < 4 := by omega
      refine bit_some f at2 fun b => ?_
      have next : ∀ v' ps' g', EX h g' → Prs h g' v' ps' → ps'.length ≤ at2 + 1 → p3z20 Try.prog K (.int .u16 f) x1 (I ((4 : Nat) : Int)) v' (I at2) (I i) (I j) L L2 g' := by
        intro v' ps' g' x' p' l'
        rw [q3z20]
        simp only [bin_add, OP_some, inc at2 (by omega), q3z21, inc j (by omega), true_and]
        exact hL2 (j + 1, at2 + 1, ps', v', g') ⟨by show i < j + 1; omega, by show j + 1 ≤ 4; omega, by show at2 + 1 ≤ 4 * i + (j + 1 - 1); omega, x', p', l'⟩ (by show 4 - (j + 1) < 4 - j; omega)
      refine IfP_of (fun _ => ?_) fun _ => next v2 ps2 g2 xg2 hp2 (by omega)
      obtain ⟨id, d1, d2, d3⟩ := hp2.obj
      rw [d2]
      simp only [bld, OP_some]
      refine app_p2 d3 (by omega) ?_
      intro id' g' e1 e2 e3
      refine next _ (ps2 ++ [((i : Int), (j : Int))]) g' (xmE xg2 d1 e2) ⟨fun p hp => ?_, id', ?_, rfl, e3⟩ (by simp; omega)
      · rcases List.mem_append.1 hp with hp | hp
        · exact hp2.mem p hp
        · rw [List.mem_singleton.1 hp]
          simp only; omega
      · have := xg2.1; omega
    · have hje : j = 4 := by omega
      subst hje
      rw [q3z22]
      simp only [bin_add, OP_some, inc i (by omega), true_and]
      exact hL (i + 1, at2, ps2, v2, g2) ⟨by show i + 1 ≤ 4; omega, by show at2 ≤ 4 * (i + 1); omega, xg2, hp2, hpl2⟩ (by show 4 - (i + 1) < 4 - i; omega)
  · exact hk v ps g xg hp (by omega)

/-- Threes of small numbers in memory. -/
structure XS (h : Heap) (v : Value) (m : Nat) (f : Nat → Nat → Nat) : Prop where
  len : iLenSl v = some (I m)
  get : ∀ i, i < m → ∃ b o, iAdrSl 3 v (I i) = some (pt b o) ∧ ∀ c, c < 3 → iLoad false 1 h (pt b (o + c)) = some (.int .u8 (f i c : Nat)) ∧ f i c < 256

theorem XS.mono {h h' : Heap} {v : Value} {m : Nat} {f : Nat → Nat → Nat} (k : EX h h') (x : XS h v m f) : XS h' v m f :=
  ⟨x.len, fun i hi => let ⟨b, o, e1, e2⟩ := x.get i hi; ⟨b, o, e1, fun c hc => ⟨EX.load k (e2 c hc).1, (e2 c hc).2⟩⟩⟩

theorem abcd (i : Nat) (h : i < 4) : (([97, 98, 99, 100] : List UInt8).take (i + 1)).drop i = [lt i] := by
  have : i = 0 ∨ i = 1 ∨ i = 2 ∨ i = 3 := by omega
  rcases this with rfl | rfl | rfl | rfl <;> rfl

/-- Two numbers of an object each, for one that stays. -/
theorem stB {h g : Heap} {x1 pv : Value} {m : Nat} {f : Nat → Nat → Nat} {ps : List (Int × Int)} {K : Value → Heap → Prop} (hx : XS h x1 m f) (xg : EX h g) (hp : Prs h g pv ps)
    (hk : ∀ s js jid bid g', EX g g' → letters 4 s → s.length ≤ 9 → js.length = s.length → smallJ js → g.length ≤ jid → g.length ≤ bid → jid ≠ bid → g'[jid]? = some (.arr 30 (pcells js)) → g'[bid]? = some (.arr 26 []) → p3z38 Try.prog K (I 4) pv (S s) (sl 30 jid 0 js.length) (sl 26 bid 0 0) g') :
    p3z23 Try.prog K x1 (I 4) pv g := by
  rw [q3z23]
  have mk1 : iMkSl 30 0 [.int .i64 0, .int .i64 0] g [] = some (sl 30 g.length 0 0, g ++ [.arr 30 []]) := rfl
  have mk2 : ∀ g : Heap, iMkSl 26 0 [.int .i64 0, .int .i64 0] g [] = some (sl 26 g.length 0 0, g ++ [.arr 26 []]) := fun _ => rfl
  simp only [mk1, OH_some, mk2, List.length_append, List.length_cons, List.length_nil, Nat.zero_add]
  refine loopL (σ := Nat × List UInt8 × List (Int × Int) × Nat × Heap) (fun q => [S q.2.1, sl 30 q.2.2.2.1 0 q.2.2.1.length, I q.1]) (fun q => q.2.2.2.2)
    (fun q => q.1 ≤ m ∧ q.1 ≤ 9 ∧ q.2.1.length = q.1 ∧ q.2.2.1.length = q.1 ∧ letters 4 q.2.1 ∧ smallJ q.2.2.1 ∧ EX g q.2.2.2.2 ∧ g.length ≤ q.2.2.2.1 ∧ q.2.2.2.1 ≠ g.length + 1 ∧ q.2.2.2.2[q.2.2.2.1]? = some (.arr 30 (pcells q.2.2.1)) ∧ q.2.2.2.2[g.length + 1]? = some (.arr 26 [])) (fun q => 9 - q.1)
    (0, [], [], g.length, g ++ [.arr 30 []] ++ [.arr 26 []]) rfl rfl ⟨by simp, by simp, rfl, rfl, by intro c hc; simp at hc, by intro c hc; simp at hc, (EX.append _ _).push _, Nat.le_refl _, by simp, by simp [pcells], by simp⟩ ?_
  rintro ⟨i, s, js, jid, g2⟩ ⟨hi, hi9, hsl, hjl, ls, hsm, x2, hj1, hj2, hj3, hb⟩ L hL
  simp only at hi hi9 hsl hjl ls hsm x2 hj1 hj2 hj3 hb hL ⊢
  rw [q3z28]
  simp only [hx.len, OP_some, bin_lss]
  rw [q3z32]
  have fin : p3z38 Try.prog K (I 4) pv (S s) (sl 30 jid 0 js.length) (sl 26 (g.length + 1) 0 0) g2 := hk s js jid (g.length + 1) g2 x2 ls (by omega) (by omega) hsm hj1 (by omega) hj2 hj3 hb
  by_cases him : i < m
  · rw [decide_eq_true (by omega)]
    simp only [GdP_tt, bin_lss, OP_some]
    rw [q3z34]
    simp only [iPick_t, OP_some, IfP_dec]
    refine ⟨fun hlt => ?_, fun _ => fin⟩
    obtain ⟨b, o, e1, e2⟩ := (hx.mono (xg.trans x2)).get i him
    have adr : ∀ c : Nat, c < 3 → iAdrArr 3 1 (pt b o) (.int .i64 (c : Int)) = some (pt b (o + c)) := by
      intro c hc
      have : (0 : Int) ≤ (c : Int) ∧ (c : Int) < ((3 : Nat) : Int) := by omega
      simp [iAdrArr, this]
      omega
    obtain ⟨w0, b0⟩ := e2 0 (by omega)
    obtain ⟨w1, b1⟩ := e2 1 (by omega)
    obtain ⟨w2, b2⟩ := e2 2 (by omega)
    have a0 : iAdrArr 3 1 (pt b o) (.int .i64 0) = some (pt b (o + 0)) := adr 0 (by omega)
    have a1 : iAdrArr 3 1 (pt b o) (.int .i64 1) = some (pt b (o + 1)) := adr 1 (by omega)
    have a2 : iAdrArr 3 1 (pt b o) (.int .i64 2) = some (pt b (o + 2)) := adr 2 (by omega)
    generalize f i 0 = z0 at w0 b0
    generalize f i 1 = z1 at w1 b1
    generalize f i 2 = z2 at w2 b2
    have r0 : iBin .rem (.int .u8 (z0 : Int)) (.int .u8 4) = some (.int .u8 ((z0 % 4 : Nat) : Int)) := rem_nat .u8 z0 4 (by omega)
    have hz0 : z0 % 4 < 4 := Nat.mod_lt _ (by omega)
    have i8 : IntKind.wrap .u8 (((z0 % 4 : Nat) : Int) + 1) = ((z0 % 4 + 1 : Nat) : Int) := by rw [wrapU8 (by omega) (by omega)]; omega
    have hS : (.string ⟨#[97, 98, 99, 100]⟩ : Value) = S [97, 98, 99, 100] := rfl
    have sl4 : iSlS (S [97, 98, 99, 100]) (some (.int .u8 ((z0 % 4 : Nat) : Int))) (some (.int .u8 ((z0 % 4 + 1 : Nat) : Int))) = some (S [lt (z0 % 4)]) := by
      rw [slS_lh [97, 98, 99, 100] (by omega) (by simp; omega), abcd _ hz0]
    have cv1 : IntKind.wrap .i64 (z1 : Int) = (z1 : Int) := wrap64 (by omega) (by omega)
    have cv2 : IntKind.wrap .i64 (z2 : Int) = (z2 : Int) := wrap64 (by omega) (by omega)
    have r1 : iBin .rem (I (z1 : Int)) (.int .i64 50) = some (I ((z1 % 50 : Nat) : Int)) := rem_nat .i64 z1 50 (by omega)
    have r2 : iBin .rem (I (z2 : Int)) (.int .i64 51) = some (I ((z2 % 51 : Nat) : Int)) := rem_nat .i64 z2 51 (by omega)
    have hz1 : z1 % 50 < 50 := Nat.mod_lt _ (by omega)
    have hz2 : z2 % 51 < 51 := Nat.mod_lt _ (by omega)
    simp only [e1, OP_some, a0, w0, true_and, r0, bin_add, i8, hS, sl4]
    rw [bin_addS _ _ (by simp [maxLen]; omega)]
    simp only [OP_some, a1, w1, true_and, conv_int, cv1, r1, bin_add, inc (z1 % 50) (by omega), a2, w2, cv2, r2, bld]
    refine app_p2 hj3 (by omega) ?_
    intro id' g' n1 n2 n3
    simp only [true_and, inc i (by omega)]
    refine hL (i + 1, s ++ [lt (z0 % 4)], js ++ [(((z1 % 50 + 1 : Nat) : Int), ((z2 % 51 : Nat) : Int))], id', g') ⟨by show i + 1 ≤ m; omega, by show i + 1 ≤ 9; omega, by simp [hsl], by simp [hjl], ?_, ?_, xmE x2 hj1 n2, ?_, ?_, n3, ?_⟩ (by show 9 - (i + 1) < 9 - i; omega)
    · intro c hc
      rcases List.mem_append.1 hc with hc | hc
      · exact ls c hc
      · exact ⟨z0 % 4, hz0, List.mem_singleton.1 hc⟩
    · intro c hc
      rcases List.mem_append.1 hc with hc | hc
      · exact hsm c hc
      · rw [List.mem_singleton.1 hc]
        simp only; omega
    · have := x2.1
      show g.length ≤ id'
      omega
    · have := (List.getElem?_eq_some_iff.1 hb).1
      show id' ≠ g.length + 1
      omega
    · show g'[g.length + 1]? = _
      rw [n2.2 _ (List.getElem?_eq_some_iff.1 hb).1 (fun h => hj2 h.symm)]
      exact hb
  · rw [decide_eq_false (by omega)]
    simp only [GdP_ft, q3z34, iPick_f, OP_some, IfP_false]
    exact fin

/-- What is before what. -/
theorem stC {g : Heap} {pv jv : Value} {bid : Nat} {ps : List (Int × Int)} {s : List UInt8} {h0 : Heap} {K : Value → Heap → Prop} (hg : EX h0 g) (hp : PS g pv ps) (hgood : good ps) (hpl : ps.length ≤ 100) (hs9 : s.length ≤ 9) (hs0 : s ≠ []) (hbid : h0.length ≤ bid) (hb : g[bid]? = some (.arr 26 []))
    (hpb : ∀ g', XM bid g g' → PS g' pv ps)
    (hk : ∀ bp id' g', (∀ d, d < g.length → d ≠ bid → g'[d]? = g[d]?) → g.length ≤ g'.length → EX h0 g' → Bef ps s bp → bp.length ≤ 40 → g'[id']? = some (.arr 26 (pcells bp)) → p3z60 Try.prog K (I 4) pv (S s) jv (sl 26 id' 0 bp.length) g')
    : p3z38 Try.prog K (I 4) pv (S s) jv (sl 26 bid 0 0) g := by
  rw [q3z38]
  have hpos : 0 < s.length := List.length_pos_iff.2 hs0
  simp only [lenS_S, OP_some, bin_eql]
  rw [decide_eq_false (by omega)]
  simp only [IfP_false]
  -- what has been gathered: all pairs below some place
  let J := fun (i j : Nat) (bp : List (Int × Int)) (id : Nat) (g' : Heap) =>
    g'[id]? = some (.arr 26 (pcells bp)) ∧ (id = bid ∨ g.length ≤ id) ∧ XM bid g g' ∧ (∀ p ∈ bp, 0 ≤ p.1 ∧ p.1 < p.2 ∧ p.2 < s.length) ∧
    (∀ b, b < s.length → ∀ a : Nat, ((a : Int), (b : Int)) ∈ bp ↔ (a < b ∧ (b < i ∨ (b = i ∧ a < j))) ∧ freeP ps (s.getD a 0) (s.getD b 0) = false)
  refine loopL (σ := Nat × List (Int × Int) × Nat × Heap) (fun q => [sl 26 q.2.2.1 0 q.2.1.length, I q.1]) (fun q => q.2.2.2) (fun q => q.1 ≤ s.length ∧ q.2.1.length ≤ 10 * q.1 ∧ 2 * q.2.1.length ≤ q.1 * (q.1 - 1) ∧ J q.1 0 q.2.1 q.2.2.1 q.2.2.2) (fun q => s.length - q.1) (0, [], bid, g) rfl rfl
    ⟨Nat.zero_le _, by simp, by simp, by simpa [pcells] using hb, .inl rfl, XM.refl _ _, by simp, fun b hb a => by simp⟩ ?_
  rintro ⟨i, bp, id, g1⟩ ⟨hi, hc1, hc2, j1, j2, j3, j4, j5⟩ L hL
  simp only at hi hc1 hc2 j1 j2 j3 j4 j5 hL ⊢
  rw [q3z45]
  simp only [lenS_S, OP_some, bin_lss, IfP_dec]
  refine ⟨fun hlt => ?_, fun hge => ?_⟩
  · have his : i < s.length := by omega
    refine loopL (σ := Nat × List (Int × Int) × Nat × Heap) (fun q => [sl 26 q.2.2.1 0 q.2.1.length, I q.1]) (fun q => q.2.2.2) (fun q => q.1 ≤ i ∧ q.2.1.length ≤ bp.length + q.1 ∧ J i q.1 q.2.1 q.2.2.1 q.2.2.2) (fun q => i - q.1) (0, bp, id, g1) rfl rfl
      ⟨Nat.zero_le _, by simp, j1, j2, j3, j4, j5⟩ ?_
    rintro ⟨j, bp2, id2, g2⟩ ⟨hj, hc3, k1, k2, k3, k4, k5⟩ L2 hL2
    simp only at hj hc3 k1 k2 k3 k4 k5 hL2 ⊢
    rw [q3z52]
    simp only [bin_lss, OP_some, IfP_dec]
    refine ⟨fun hlt2 => ?_, fun hge2 => ?_⟩
    · have hji : j < i := by omega
      have hjs : j < s.length := by omega
      rw [idxS_S s hjs, OP_some, idxS_S s his, OP_some]
      refine C4 (hpb g2 k3) hgood hpl ?_
      have gj : s.getD j 0 = s[j] := getD_of (List.getElem?_eq_getElem hjs)
      have gi : s.getD i 0 = s[i] := getD_of (List.getElem?_eq_getElem his)
      simp only [un_not, OP_some, true_and]
      refine IfP_of (fun hf => ?_) fun hf => ?_
      · have hf' : freeP ps (s.getD j 0) (s.getD i 0) = false := by rw [gj, gi]; simpa using hf
        simp only [bld, OP_some]
        refine app_p2 k1 (by omega) ?_
        intro id' g' n1 n2 n3
        rw [q3z58]
        simp only [bin_add, OP_some, inc j (by omega), true_and]
        have hid2 : id2 = bid ∨ g.length ≤ id2 := k2
        refine hL2 (j + 1, bp2 ++ [((j : Int), (i : Int))], id', g') ⟨by show j + 1 ≤ i; omega, by simp; omega, n3, ?_, ?_, ?_, ?_⟩ (by show i - (j + 1) < i - j; omega)
        · have := k3.1
          show id' = bid ∨ g.length ≤ id'
          exact .inr (by omega)
        · refine ⟨Nat.le_trans k3.1 n2.1, fun d hd hne => ?_⟩
          rw [n2.2 d (Nat.lt_of_lt_of_le hd k3.1) (by omega)]
          exact k3.2 d hd hne
        · intro p hp
          rcases List.mem_append.1 hp with hp | hp
          · exact k4 p hp
          · rw [List.mem_singleton.1 hp]
            simp only; omega
        · intro b hb a
          rw [List.mem_append, k5 b hb a, List.mem_singleton, Prod.mk.injEq]
          constructor
          · rintro (⟨h1, h2⟩ | ⟨h1, h2⟩)
            · exact ⟨by omega, h2⟩
            · have e1 : a = j := by omega
              have e2 : b = i := by omega
              subst e1; subst e2
              exact ⟨by omega, hf'⟩
          · rintro ⟨h1, h2⟩
            by_cases he : a = j ∧ b = i
            · exact .inr ⟨by omega, by omega⟩
            · exact .inl ⟨by omega, h2⟩
      · have hf' : freeP ps (s.getD j 0) (s.getD i 0) = true := by rw [gj, gi]; simpa using hf
        rw [q3z58]
        simp only [bin_add, OP_some, inc j (by omega), true_and]
        refine hL2 (j + 1, bp2, id2, g2) ⟨by show j + 1 ≤ i; omega, by show bp2.length ≤ bp.length + (j + 1); omega, k1, k2, k3, k4, ?_⟩ (by show i - (j + 1) < i - j; omega)
        intro b hb a
        rw [k5 b hb a]
        constructor
        · rintro ⟨h1, h2⟩
          exact ⟨by omega, h2⟩
        · rintro ⟨h1, h2⟩
          refine ⟨?_, h2⟩
          by_cases he : a = j ∧ b = i
          · obtain ⟨rfl, rfl⟩ := he
            rw [hf'] at h2; cases h2
          · omega
    · have hje : j = i := by omega
      subst hje
      rw [q3z59]
      simp only [bin_add, OP_some, inc j (by omega), true_and]
      have hmul : (j + 1) * (j + 1 - 1) = j * (j - 1) + 2 * j := by
        rw [Nat.add_sub_cancel]
        cases j with
        | zero => rfl
        | succ j => rw [Nat.add_sub_cancel]; simp only [Nat.add_mul, Nat.mul_add]; omega
      refine hL (j + 1, bp2, id2, g2) ⟨by show j + 1 ≤ s.length; omega, by show bp2.length ≤ 10 * (j + 1); omega, by show 2 * bp2.length ≤ (j + 1) * (j + 1 - 1); rw [hmul]; omega, k1, k2, k3, k4, ?_⟩ (by show s.length - (j + 1) < s.length - j; omega)
      intro b hb a
      rw [k5 b hb a]
      constructor
      · rintro ⟨h1, h2⟩; exact ⟨by omega, h2⟩
      · rintro ⟨h1, h2⟩; exact ⟨by omega, h2⟩
  · have hie : i = s.length := by omega
    subst hie
    have hb40 : bp.length ≤ 40 := by
      have : s.length * (s.length - 1) ≤ 9 * 8 := Nat.mul_le_mul hs9 (by omega)
      omega
    refine hk bp id g1 (fun d hd hne => j3.2 d hd hne) j3.1 (xmE hg hbid j3) ⟨j4, fun b hb a => ?_⟩ hb40 j1
    rw [j5 b hb a]
    constructor
    · rintro ⟨h1, h2⟩; exact ⟨by omega, h2⟩
    · rintro ⟨h1, h2⟩; exact ⟨by omega, h2⟩

end Go.Proofs.Ytipeennffbbglaa

/-
  The law TopOrders.
-/
namespace Go.Proofs.Ytipeennffbbglaa
open Go.Sim

theorem take_getD {s : List UInt8} {i : Nat} (h : i < s.length) : (s.take (i + 1)).drop i = [s.getD i 0] := by
  rw [take_drop_one h, getD_of (List.getElem?_eq_getElem h)]

theorem byO_take {s : List UInt8} {l : List Nat} {j : Nat} (hj : j < l.length) : byO s (l.take (j + 1)) = byO s (l.take j) ++ [s.getD l[j] 0] := by
  unfold byO
  rw [List.take_succ_eq_append_getElem hj, List.map_append]
  rfl

/-- The last part: the steps in turn. -/
theorem stF {g : Heap} {pv jv bv hv sv : Value} {ps js bp : List (Int × Int)} {s : List UInt8} {c : Int} {bs : List Nat} {K : Value → Heap → Prop} (hp : PS g pv ps) (ht : threadsOk 4 ps = true) (ls : letters 4 s) (hs9 : s.length ≤ 9) (hs0 : 1 ≤ s.length) (hj : PS g jv js) (hjl : js.length = s.length) (hsm : smallJ js)
    (hb : PS g bv bp) (bef : Bef ps s bp) (h40 : bp.length ≤ 40) (hbs : BS bp s.length bs) (hh : NS g hv .i64 (hl ps s)) (hst : NS g sv .i64 ((stepO (hl ps s) s.length s.length).map fun i : Nat => (i : Int))) (hc : c = minS bs js s.length 0) (hk : ∀ h', K (B true) h') :
    p3z126 Try.prog K pv (S s) jv bv hv (I c) (B true) (I 0) sv g := by
  have hok := steps_ok bef hbs
  have hlen := ok_length (by omega) hok.1 hok.2
  have hgood := (threadsOk_good ht)
  rw [q3z126]
  refine C12 hj hb (by omega) (by omega) h40 hsm (by rw [hjl]; exact bef.up) hst (by rw [hlen, hjl]) (fun bs' hbs' => by rw [hjl] at hbs' ⊢; exact (steps_ok bef hbs').1) ?_
  intro g' xg
  have hle := minS_le hsm.all (show s.length ≤ 10 by omega) (hbs.up bef.up) (l := stepO (hl ps s) s.length s.length) (s := 0) (Nat.pow_pos (by decide)) hok.1 hok.2
  rw [now_zero] at hle
  simp only [ext_tuple, pair0, pair1, OP_some]
  rw [q3z130]
  have e0 : decide ((0 : Int) = 0) = true := rfl
  simp only [GdP_tt, bin_eql, OP_some, decide_true, q3z132, iPick_t, q3z134, q3z136, q3z138, bin_geq]
  have ec : decide (c ≤ costF js 0 (stepO (hl ps s) s.length s.length)) = true := decide_eq_true (by omega)
  simp only [ec, q3z140, iPick_t, OP_some, q3z142, GdP_tt]
  refine C14 (s := s) (hp.mono xg) hgood.1 (by omega) (by omega) ?_
  intro v g2 xg2 hv2
  refine C13e (hh.mono (xg.trans xg2)) hv2 (by rw [hl_length]; omega) ?_
  simp only [q3z144, iPick_t, OP_some]
  exact hk _

/-- The steps are gathered. -/
theorem stE {g : Heap} {pv jv bv hv : Value} {ps js bp : List (Int × Int)} {s t : List UInt8} {c : Int} {bs : List Nat} {K : Value → Heap → Prop} (hp : PS g pv ps) (ht : threadsOk 4 ps = true) (ls : letters 4 s) (lt4 : letters 4 t) (htl : t.length ≤ 9) (heq : Lst ps s = Lst ps t) (hs9 : s.length ≤ 9) (hs0 : 1 ≤ s.length) (hj : PS g jv js) (hjl : js.length = s.length) (hsm : smallJ js)
    (hb : PS g bv bp) (bef : Bef ps s bp) (h40 : bp.length ≤ 40) (hbs : BS bp s.length bs) (hh : NS g hv .i64 (hl ps s)) (hc : c = minS bs js s.length 0) (hk : ∀ h', K (B true) h') :
    p3z105 Try.prog K (I 4) pv (S s) jv bv hv (I c) (S t) g := by
  have hgood := (threadsOk_good ht)
  have hw : whyE 4 ps [s, t] 40 = 0 := why2 (n := 4) (by omega) ht ls lt4 (by omega) (by omega)
  rw [q3z105]
  refine C11 hp (by omega) (by omega) (by omega) ?_
  have e : equalV 4 ps s t = .tuple #[B true, I 0] := by
    have := equalV_ok (n := 4) hw
    rw [decide_eq_true heq] at this
    exact this
  rw [e]
  have mk : iMkSl 3 0 [.int .i64 0] g [] = some (sl 3 g.length 0 0, g ++ [.arr 3 []]) := rfl
  simp only [ext_tuple, pair0, pair1, OP_some, mk, OH_some]
  refine loopL (σ := Nat × Value × Heap) (fun q => [q.2.1, I ((q.1 + 1 : Nat) : Int)]) (fun q => q.2.2) (fun q => q.1 ≤ s.length ∧ EX g q.2.2 ∧ OwnS g.length q.2.2 3 q.2.1 ((stepO (hl ps s) s.length q.1).map fun i : Nat => I i)) (fun q => s.length - q.1)
    (0, sl 3 g.length 0 0, g ++ [.arr 3 []]) rfl rfl ⟨Nat.zero_le _, EX.append _ _, .inr ⟨g.length, Nat.le_refl _, rfl, by simp [stepO]⟩⟩ ?_
  rintro ⟨m, v, g1⟩ ⟨hm, x1, own⟩ L hL
  simp only at hm x1 own hL ⊢
  have slen : ∀ m, m ≤ s.length → (stepO (hl ps s) s.length m).length ≤ 10 * m := by
    intro m hm
    induction m with
    | zero => simp [stepO]
    | succ m ih =>
      have h1 := ih (by omega)
      have h2 := List.length_filter_le (fun q => decide ((hl ps s).getD q 0 = (m : Int) + 1)) (List.range s.length)
      rw [List.length_range] at h2
      simp only [stepO, List.length_append]
      omega
  rw [q3z111]
  simp only [lenS_S, OP_some, bin_leq, IfP_dec]
  refine ⟨fun hlt => ?_, fun hge => ?_⟩
  · have hms : m < s.length := by omega
    have hlm := slen m hm
    refine loopL (σ := Nat × Value × Heap) (fun q => [q.2.1, I q.1]) (fun q => q.2.2)
      (fun q => q.1 ≤ s.length ∧ EX g q.2.2 ∧ OwnS g.length q.2.2 3 q.2.1 ((stepO (hl ps s) s.length m ++ (List.range q.1).filter fun k => decide ((hl ps s).getD k 0 = (m : Int) + 1)).map fun i : Nat => I i)) (fun q => s.length - q.1)
      (0, v, g1) rfl rfl ⟨Nat.zero_le _, x1, by simpa using own⟩ ?_
    rintro ⟨q, v2, g2⟩ ⟨hq, x2, own2⟩ L2 hL2
    simp only at hq x2 own2 hL2 ⊢
    have hhl := hh.mono x2
    have hlh : (hl ps s).length = s.length := hl_length ps s
    have hlen2 := hhl.len
    rw [hlh] at hlen2
    rw [q3z118]
    simp only [hlen2, OP_some, bin_lss, IfP_dec]
    refine ⟨fun hlt2 => ?_, fun hge2 => ?_⟩
    · have hqs : q < s.length := by omega
      obtain ⟨b, o, e1, e2⟩ := hhl.get q (by omega)
      have eg : (hl ps s).getD q 0 = (hl ps s)[q]'(by omega) := by simp [List.getD_eq_getElem?_getD, hlh, hqs]
      rw [← eg] at e2
      have hfl := List.length_filter_le (fun k => decide ((hl ps s).getD k 0 = (m : Int) + 1)) (List.range q)
      rw [List.length_range] at hfl
      have em : ((m + 1 : Nat) : Int) = (m : Int) + 1 := by omega
      simp only [e1, e2, OP_some, bin_eql, IfP_dec]
      refine ⟨fun he => ?_, fun hne => ?_⟩
      · refine app1 own2 x2 (by rw [List.length_map, List.length_append]; omega) (by rw [List.length_map, List.length_append]; unfold maxLen; omega) rfl rfl ?_
        intro v' g' x' own'
        rw [q3z124]
        simp only [bin_add, OP_some, inc q (by omega), true_and]
        refine hL2 (q + 1, v', g') ⟨by show q + 1 ≤ s.length; omega, x', ?_⟩ (by show s.length - (q + 1) < s.length - q; omega)
        show OwnS g.length g' 3 v' ((stepO (hl ps s) s.length m ++ (List.range (q + 1)).filter fun k => decide ((hl ps s).getD k 0 = (m : Int) + 1)).map fun i : Nat => I i)
        rw [List.range_succ, List.filter_append]
        have : [q].filter (fun k => decide ((hl ps s).getD k 0 = (m : Int) + 1)) = [q] := by
          rw [List.filter_cons, if_pos (by rw [decide_eq_true_eq]; omega)]; rfl
        rw [this, ← List.append_assoc, List.map_append]
        exact own'
      · rw [q3z124]
        simp only [bin_add, OP_some, inc q (by omega), true_and]
        refine hL2 (q + 1, v2, g2) ⟨by show q + 1 ≤ s.length; omega, x2, ?_⟩ (by show s.length - (q + 1) < s.length - q; omega)
        show OwnS g.length g2 3 v2 ((stepO (hl ps s) s.length m ++ (List.range (q + 1)).filter fun k => decide ((hl ps s).getD k 0 = (m : Int) + 1)).map fun i : Nat => I i)
        rw [List.range_succ, List.filter_append]
        have : [q].filter (fun k => decide ((hl ps s).getD k 0 = (m : Int) + 1)) = [] := by
          rw [List.filter_cons, if_neg (by rw [decide_eq_true_eq]; omega)]; rfl
        rw [this, List.append_nil]
        exact own2
    · have hqe : q = s.length := by omega
      subst hqe
      rw [q3z125]
      simp only [bin_add, OP_some, inc (m + 1) (by omega), true_and]
      exact hL (m + 1, v2, g2) ⟨by show m + 1 ≤ s.length; omega, x2, own2⟩ (by show s.length - (m + 1) < s.length - m; omega)
  · have hme : m = s.length := by omega
    subst hme
    have hlm := slen s.length (Nat.le_refl _)
    exact stF (hp.mono x1) ht ls hs9 hs0 (hj.mono x1) hjl hsm (hb.mono x1) bef h40 hbs (hh.mono x1) (own.ns (by omega)) hc hk

theorem stD {g : Heap} {pv jv bv : Value} {ps js bp : List (Int × Int)} {s : List UInt8} {K : Value → Heap → Prop} (hp : PS g pv ps) (ht : threadsOk 4 ps = true) (ls : letters 4 s) (hs9 : s.length ≤ 9) (hs0 : 1 ≤ s.length) (hj : PS g jv js) (hjl : js.length = s.length) (hsm : smallJ js)
    (hb : PS g bv bp) (bef : Bef ps s bp) (h40 : bp.length ≤ 40) (hk : ∀ h', K (B true) h') : p3z60 Try.prog K (I 4) pv (S s) jv bv g := by
  have hgood := (threadsOk_good ht)
  have ls6 := letters_le (show 4 ≤ 6 by omega) ls
  have hw16 : whyE 4 ps [s] 16 = 0 := whyE_zero (n := 4) (by omega) ht (by simpa using ⟨ls, by omega⟩)
  have hw40 : whyE 4 ps [s] 40 = 0 := whyE_zero (n := 4) (by omega) ht (by simpa using ⟨ls, by omega⟩)
  rw [q3z60]
  refine C5 hp (by omega) (by omega) ?_
  unfold waysV
  rw [if_pos hw16]
  simp only [ext_tuple, pair0, pair1, OP_some]
  refine C6 hp (by omega) (by omega) (fun h => absurd hw40 h) ?_
  intro _ hv g1 x1 hh
  simp only [ext_tuple, pair0, pair1, OP_some]
  refine C7 (hj.mono x1) (hb.mono x1) (by omega) (by omega) h40 hsm (by rw [hjl]; exact bef.up) ?_
  intro g2 bs x2 hbs
  rw [hjl] at hbs ⊢
  rw [lefts_eq ht ls6 bef hbs]
  have hwl := waysN_le (freeP ps) s.length (Lst ps s)
  have hp6 := pow6 (f := s.length) (by omega)
  refine ⟨by omega, ?_⟩
  simp only [ext_tuple, pair0, pair1, OP_some]
  have x12 := x1.trans x2
  refine C8 (n := s.length) (hj.mono x12) (hb.mono x12) hjl hs0 (by omega) h40 hsm bef.up ?_
  intro lv g3 bs' l x3 hbs' hln hok hfull hll hcost
  have := hbs.uniq hbs'
  subst this
  have t3 : ∀ a b c : Value, (#[a, b, c] : Array Value)[0]? = some a ∧ (#[a, b, c] : Array Value)[1]? = some b ∧ (#[a, b, c] : Array Value)[2]? = some c := fun _ _ _ => ⟨rfl, rfl, rfl⟩
  have x13 := x12.trans x3
  have hj3 := hj.mono x13
  have hb3 := hb.mono x13
  have hh3 := hh.mono (x2.trans x3)
  have hlh := hh3.len
  rw [hl_length] at hlh
  simp only [ext_tuple, t3, OP_some, bin_neq, decide_true, Bool.not_true]
  rw [q3z68]
  simp only [GdP_ff, bin_neq, OP_some, decide_true, Bool.not_true, q3z70, iPick_f, q3z72, q3z74, q3z76, q3z78, q3z80, q3z82, q3z84, hlh, lenS_S, q3z86, q3z88]
  refine C9 (n := s.length) hj3 hb3 hjl (by omega) h40 bef.up hbs hln hok hll ?_
  simp only [un_not, OP_some, Bool.not_true, q3z90, iPick_f, q3z92, GdP_ff]
  refine C10 hj3 hsm hln (fun i hi => by rw [hjl]; exact okO_lt hok i hi) (by omega) ?_
  simp only [bin_neq, OP_some, decide_true, Bool.not_true, q3z94, iPick_f, IfP_false]
  have hlt := okO_lt hok
  have lenl : iLenSl lv = some (I l.length) := NS.lenN hln
  refine loopL (σ := Nat) (fun j => [S (byO s (l.take j)), I j]) (fun _ => g3) (fun j => j ≤ l.length) (fun j => l.length - j) 0 rfl rfl (Nat.zero_le _) ?_
  intro j hjj L hL
  rw [q3z100]
  simp only [lenl, OP_some, bin_lss, IfP_dec]
  refine ⟨fun hlt2 => ?_, fun hge => ?_⟩
  · have hjl2 : j < l.length := by omega
    obtain ⟨b, o, e1, e2⟩ := NS.getN hln hjl2
    have hls := hlt _ (List.getElem_mem hjl2)
    simp only [e1, e2, OP_some, bin_add, inc l[j] (by omega), true_and]
    rw [slS_lh s (by omega) (by omega), OP_some, take_getD hls, bin_addS _ _ (by simp [byO, maxLen]; omega)]
    simp only [OP_some, inc j (by omega)]
    rw [← byO_take hjl2]
    exact hL (j + 1) (by omega) (by omega)
  · have hje : j = l.length := by omega
    subst hje
    rw [List.take_length]
    exact stE (hp.mono x13) ht ls (byO_letters ls hlt) (by simp [byO]; omega) (byO_eq ht ls6 bef hbs hok hfull) hs9 hs0 hj3 hjl hsm hb3 bef h40 hbs hh3 hcost hk

theorem prs_ok {h g : Heap} {v : Value} {ps : List (Int × Int)} (p : Prs h g v ps) (hl : ps.length ≤ 30) : threadsOk 4 ps = true := by
  unfold threadsOk tlOk
  rw [Bool.and_eq_true, List.all_eq_true]
  refine ⟨fun q hq => ?_, by simp; omega⟩
  have := p.mem q hq
  unfold pok
  simp
  omega

theorem psl0 {h : Heap} {e : TypeId} {i : Nat} {ps : List (Int × Int)} (hc : h[i]? = some (.arr e (pcells ps))) : PS h (sl e i 0 ps.length) ps := PS.sl (by simp [objCells, hc])

theorem C3 {h : Heap} {x1 : Value} {m : Nat} {f : Int} {z : Nat → Nat → Nat} {K : Value → Heap → Prop} (hx : XS h x1 m z) (hk : ∀ h', K (B true) h') : CallP Try.prog 3 [.int .u16 f, x1] h K := by
  refine stA fun pv ps g xg hp hpl => ?_
  have ht := prs_ok hp hpl
  have hgood := (threadsOk_good ht)
  refine stB hx xg hp fun s js jid bid g1 x1 ls hs9 hjl hsm hj1 hb1 hne hj hb => ?_
  by_cases hs0 : s = []
  · subst hs0
    rw [q3z38]
    have e0 : decide ((([] : List UInt8).length : Int) = 0) = true := rfl
    simp only [lenS_S, OP_some, bin_eql, e0, List.length_nil, Int.ofNat_zero, decide_true, IfP_true, Int.cast_ofNat_Int]
    exact hk _
  obtain ⟨pid, p1, p2, p3⟩ := hp.obj
  have hplt := (List.getElem?_eq_some_iff.1 p3).1
  have hpos : 1 ≤ s.length := by have := List.length_pos_iff.2 hs0; omega
  refine stC (h0 := g) (ps := ps) (jv := sl 30 jid 0 js.length) x1 (by rw [p2]; exact psl0 (x1.get p3)) hgood.1 (by omega) hs9 hs0 hb1 hb (fun g' x' => ?_) ?_
  · rw [p2]
    exact psl0 (x'.get (by omega) (x1.get p3))
  · intro bp id' g' k1 k2 k3 bef h40 hbp
    have hjlt := (List.getElem?_eq_some_iff.1 hj).1
    refine stD (by rw [p2]; exact psl0 (k3.get p3)) ht ls hs9 hpos (psl0 (by rw [k1 jid hjlt hne]; exact hj)) hjl hsm (psl0 hbp) bef h40 hk

end Go.Proofs.Ytipeennffbbglaa
