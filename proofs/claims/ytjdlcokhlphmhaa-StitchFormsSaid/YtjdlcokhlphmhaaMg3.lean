/-
  What two seams have in common, and what both begin: both sides.
-/
import Derived.Test.YtjdlcokhlphmhaaMg2
import Derived.Test.YtjdlcokhlphmhaaSp3
import Derived.Test.YtjdlcokhlphmhaaSh3
namespace Go.Proofs.Ytjdlcokhlphmhaa
open Go.Sim

theorem divG_eq (fr : UInt8 → UInt8 → Bool) : ∀ s u : List UInt8, divF fr s u = divG fr s u
  | [], u => rfl
  | c :: cs, u => by
    simp only [divF, divG]
    cases firstAt fr c u 0 with
    | none => rfl
    | some i => exact divG_eq fr cs _

theorem firstAt_cm {ps : List (Int × Int)} {s : List UInt8} {b : Nat} (hs : letters 6 s) (hb : b < 6) : firstAt (frM (cmOf ps)) (lt b) s 0 = firstAt (freeP ps) (lt b) s 0 :=
  firstAt_congr fun c hc => by obtain ⟨a, ha, rfl⟩ := hs c hc; exact frM_cmOf ps (by omega) (by omega)

/-- A common beginning of two seams, and what follows it in each. -/
structure MeetI (ps : List (Int × Int)) (n : Nat) (s u m a b : List UInt8) : Prop where
  lm : letters n m
  la : letters n a
  lb : letters n b
  ea : eqv (freeP ps) 6 (m ++ a) s
  eb : eqv (freeP ps) 6 (m ++ b) u

theorem MeetI.start {ps : List (Int × Int)} {n : Nat} {s u : List UInt8} (hs : letters n s) (hu : letters n u) : MeetI ps n s u [] s u :=
  ⟨fun c hc => by simp at hc, hs, hu, eqv.refl _ _ _, eqv.refl _ _ _⟩

theorem MeetI.step {ps : List (Int × Int)} {n : Nat} {s u m a b : List UInt8} (h : MeetI ps n s u m a b) {c i j : Nat} (hc : c < n) (hi : firstAt (freeP ps) (lt c) a 0 = some i) (hj : firstAt (freeP ps) (lt c) b 0 = some j) :
    MeetI ps n s u (m ++ [lt c]) (without a i) (without b j) := by
  refine ⟨letters_append h.lm fun d hd => ⟨c, hc, by simpa using hd⟩, letters_without h.la i, letters_without h.lb j, ?_, ?_⟩
  · rw [List.append_assoc]
    exact ((eqv.refl _ _ m).append (eqv_front (freeP_symm ps) hi)).trans h.ea
  · rw [List.append_assoc]
    exact ((eqv.refl _ _ m).append (eqv_front (freeP_symm ps) hj)).trans h.eb

/-- The longest one. -/
structure MeetR (ps : List (Int × Int)) (n : Nat) (s u m a b : List UInt8) : Prop extends MeetI ps n s u m a b where
  ap : apartF (freeP ps) 6 a b

theorem MeetI.len {ps : List (Int × Int)} {n : Nat} {s u m a b : List UInt8} (h : MeetI ps n s u m a b) (hn : n ≤ 6) (hs : letters n s) (hu : letters n u) : m.length + a.length = s.length ∧ m.length + b.length = u.length := by
  have h1 := eqv_length (freeP_symm ps) (letters_append (letters_le hn h.lm) (letters_le hn h.la)) (letters_le hn hs) h.ea
  have h2 := eqv_length (freeP_symm ps) (letters_append (letters_le hn h.lm) (letters_le hn h.lb)) (letters_le hn hu) h.eb
  simp at h1 h2
  omega

theorem MeetR.six {ps : List (Int × Int)} {n : Nat} {s u m a b : List UInt8} (h : MeetR ps n s u m a b) (hn : n ≤ 6) : MeetR ps 6 s u m a b :=
  ⟨⟨letters_le hn h.lm, letters_le hn h.la, letters_le hn h.lb, h.ea, h.eb⟩, h.ap⟩

theorem first_mem {fr : UInt8 → UInt8 → Bool} {x : UInt8} {s : List UInt8} (h : first fr x s) : x ∈ s := by
  obtain ⟨i, hi⟩ := h
  obtain ⟨u, v, e, _, _⟩ := firstAt_split hi
  rw [e]; simp

theorem C80k {t : Value} {n : Nat} {ps : List (Int × Int)} {s0 u0 : List UInt8} {h : Heap} {K : Value → Heap → Prop} (ht : TH h t n (cmOf ps)) (hn6 : n ≤ 6) (ls : letters n s0) (lu : letters n u0) (hls : s0.length ≤ 1000) (hlu : u0.length ≤ 1000)
    (hk : ∀ m a b hx, EX h hx → MeetR ps n s0 u0 m a b → K (.tuple #[S m, S a, S b]) hx) : CallP Try.prog 80 [t, S s0, S u0] h K := by
  refine f80 ?_
  refine loopL (σ := List UInt8 × List UInt8 × List UInt8 × Value × Bool × Heap) (fun p => [S p.1, S p.2.1, p.2.2.2.1, B p.2.2.2.2.1]) (fun p => p.2.2.2.2.2)
    (fun p => MeetI ps n s0 u0 p.2.2.1 p.1 p.2.1 ∧ EX h p.2.2.2.2.2 ∧ OwnS h.length p.2.2.2.2.2 5 p.2.2.2.1 (p.2.2.1.map cv) ∧ (p.2.2.2.2.1 = false → apartF (freeP ps) 6 p.1 p.2.1)) (fun p => 2 * p.1.length + (if p.2.2.2.2.1 then 1 else 0))
    (s0, u0, [], .slice none 0 0, true, h) rfl rfl ⟨MeetI.start ls lu, EX.refl h, .inl ⟨rfl, rfl⟩, by simp⟩ ?_
  rintro ⟨s, u, out, v, mo, hx⟩ ⟨hI, hex, hown, hap⟩ L hL
  simp only at hI hex hown hap hL ⊢
  rw [q80z6]
  cases mo with
  | false =>
    simp only [IfP_false, q80z27]
    rw [b2s hown]
    simp only [OP_some]
    exact hk _ _ _ _ hex ⟨hI, hap rfl⟩
  | true =>
    have hthx := ht.mono hex
    obtain ⟨ti, rfl, hc⟩ := hthx
    have hld : iLoad false 1 hx (pt ti 0) = some (I n) := by simp [iLoad, hc, iPart, tcells]
    simp only [IfP_true, nilck_pt, OP_some, fadr_pt, Nat.zero_add, hld]
    refine loopL (σ := List UInt8 × List UInt8 × List UInt8 × Value × Bool × Nat × Heap) (fun p => [S p.1, S p.2.1, p.2.2.2.1, B p.2.2.2.2.1, I p.2.2.2.2.2.1]) (fun p => p.2.2.2.2.2.2)
      (fun p => MeetI ps n s0 u0 p.2.2.1 p.1 p.2.1 ∧ EX h p.2.2.2.2.2.2 ∧ OwnS h.length p.2.2.2.2.2.2 5 p.2.2.2.1 (p.2.2.1.map cv) ∧ p.2.2.2.2.2.1 ≤ n ∧ (p.2.2.2.2.1 = true → p.1.length < s.length) ∧
        (p.2.2.2.2.1 = false → p.1.length = s.length ∧ ∀ c, c < p.2.2.2.2.2.1 → first (freeP ps) (lt c) p.1 → first (freeP ps) (lt c) p.2.1 → False)) (fun p => n - p.2.2.2.2.2.1)
      (s, u, out, v, false, 0, hx) rfl rfl ⟨hI, hex, hown, by simp, by simp, by simp⟩ ?_
    rintro ⟨s, u, out, v, mo, b, hx⟩ ⟨hI, hex, hown, hb, hm1, hm2⟩ L2 hL2
    simp only at hI hex hown hb hm1 hm2 hL2 ⊢
    rw [q80z13]
    obtain ⟨len1, len2⟩ := hI.len hn6 ls lu
    have hthx := ht.mono hex
    simp only [bin_lss, OP_some, IfP_dec]
    refine ⟨fun hlt => ?_, fun hge => ?_⟩
    · have hlt' : b < n := by omega
      simp only [conv_int, OP_some, bin_add]
      rw [wrapU8 (n := (b : Int)) (by omega) (by omega), wrapU8 (by omega) (by omega)]
      have ecv : (.int .u8 (97 + (b : Int)) : Value) = cv (lt b) := by rw [cv_lt (by omega)]; congr 1
      rw [ecv]
      have s6 := letters_le hn6 hI.la
      have u6 := letters_le hn6 hI.lb
      refine C84 hthx (by omega) s6 (by omega) ?_
      refine C84 hthx (by omega) u6 (by omega) ?_
      rw [firstAt_cm s6 (by omega), firstAt_cm u6 (by omega)]
      have same : (first (freeP ps) (lt b) s → first (freeP ps) (lt b) u → False) → p80z26 Try.prog K (pt ti 0) (S s) (S u) v (B mo) (I n) (I b) L L2 hx := by
        intro hno
        rw [q80z26]
        simp only [bin_add, OP_some, inc b (by omega), true_and]
        refine hL2 (s, u, out, v, mo, b + 1, hx) ⟨hI, hex, hown, by show b + 1 ≤ n; omega, hm1, fun h => ⟨(hm2 h).1, fun c hc => ?_⟩⟩ (by show n - (b + 1) < n - b; omega)
        by_cases hcb : c = b
        · subst hcb; exact hno
        · exact (hm2 h).2 c (by have : c < b + 1 := hc; omega)
      simp only [bin_geq, OP_some]
      cases h1 : firstAt (freeP ps) (lt b) s 0 with
      | none =>
        rw [q80z23, decide_eq_false (show ¬ (0 : Int) ≤ optI none by simp [optI])]
        simp only [GdP_ft, q80z25, iPick_f, OP_some, IfP_false]
        exact same fun ⟨i, hi⟩ _ => by rw [h1] at hi; cases hi
      | some i =>
        rw [q80z23, decide_eq_true (show (0 : Int) ≤ optI (some i) by simp [optI])]
        simp only [GdP_tt, bin_geq, OP_some]
        cases h2 : firstAt (freeP ps) (lt b) u 0 with
        | none =>
          rw [q80z25, decide_eq_false (show ¬ (0 : Int) ≤ optI none by simp [optI])]
          simp only [iPick_t, OP_some, IfP_false]
          exact same fun _ ⟨i, hi⟩ => by rw [h2] at hi; cases hi
        | some j =>
          rw [q80z25, decide_eq_true (show (0 : Int) ≤ optI (some j) by simp [optI])]
          simp only [iPick_t, OP_some, IfP_true, optI]
          have hi := (firstAt_lt h1).1
          have hj := (firstAt_lt h2).1
          have w1 := without_length hi
          have w2 := without_length hj
          refine C85 hi (by omega) (C85 hj (by omega) ?_)
          refine app1 hown hex (by simp; omega) (by simp [maxLen]; omega) rfl rfl ?_
          intro v' hx' hex' hown'
          rw [q80z26]
          simp only [bin_add, OP_some, inc b (by omega), true_and]
          refine hL2 (without s i, without u j, out ++ [lt b], v', true, b + 1, hx') ⟨hI.step hlt' h1 h2, hex', by simpa using hown', by show b + 1 ≤ n; omega, fun _ => ?_, fun h => by cases h⟩ (by show n - (b + 1) < n - b; omega)
          show (without s i).length < _
          cases mo with
          | true => have := hm1 rfl; omega
          | false => have := (hm2 rfl).1; omega
    · have : b = n := by omega
      subst this
      simp only [true_and]
      refine hL (s, u, out, v, mo, hx) ⟨hI, hex, hown, fun h c hc f1 f2 => ?_⟩ ?_
      · obtain ⟨d, hd, e⟩ := hI.la _ (first_mem f1)
        have : c = d := lt_inj (by omega) (by omega) e
        exact (hm2 h).2 c (by omega) f1 f2
      · show 2 * s.length + (if mo then 1 else 0) < _
        cases mo with
        | true => have := hm1 rfl; simp; omega
        | false => have := (hm2 rfl).1; simp; omega

theorem C80 {t : Value} {n : Nat} {ps : List (Int × Int)} {s0 u0 : List UInt8} {h : Heap} {K : Value → Heap → Prop} (ht : TH h t n (cmOf ps)) (hn6 : n ≤ 6) (ls : letters n s0) (lu : letters n u0) (hls : s0.length ≤ 1000) (hlu : u0.length ≤ 1000)
    (hk : ∀ m a b, MeetR ps n s0 u0 m a b → K (.tuple #[S m, S a, S b]) h) : CallP Try.prog 80 [t, S s0, S u0] h K :=
  callP_gcE (C80k ht hn6 ls lu hls hlu fun m a b hx hex hm => ⟨hex, Ren.tuple (l := [fun _ => S m, fun _ => S a, fun _ => S b]) (.cons (Ren.scal rfl) (.cons (Ren.scal rfl) (.cons (Ren.scal rfl) .nil))), hk _ _ _ hm⟩)

theorem C49 {ps : List (Int × Int)} {pv : Value} {s0 u0 : List UInt8} {h : Heap} {K : Value → Heap → Prop} (hp : PS h pv ps) (hg : good ps) (hl : ps.length ≤ 100) (ls : letters 6 s0) (lu : letters 6 u0) (hls : s0.length ≤ 1000) (hlu : u0.length ≤ 1000)
    (hk : ∀ m a b, MeetR ps 6 s0 u0 m a b → K (S (Lst ps m)) h) : CallP Try.prog 49 [pv, S s0, S u0] h K := by
  refine f49 ?_
  refine loopL (σ := List UInt8 × List UInt8 × List UInt8) (fun p => [S p.1, S p.2.1, S p.2.2]) (fun _ => h) (fun p => MeetI ps 6 s0 u0 p.2.2 p.1 p.2.1) (fun p => p.1.length)
    (s0, u0, []) rfl rfl (MeetI.start ls lu) ?_
  rintro ⟨s, u, out⟩ hI L hL
  simp only at hI hL ⊢
  rw [q49z4]
  refine loopL (σ := List UInt8 × List UInt8 × List UInt8 × Bool × Nat) (fun p => [S p.1, S p.2.1, S p.2.2.1, B p.2.2.2.1, cv (lt p.2.2.2.2)]) (fun _ => h)
    (fun p => MeetI ps 6 s0 u0 p.2.2.1 p.1 p.2.1 ∧ p.2.2.2.2 ≤ 6 ∧ (p.2.2.2.1 = true → p.1.length < s.length) ∧
      (p.2.2.2.1 = false → p.1.length = s.length ∧ ∀ c, c < p.2.2.2.2 → first (freeP ps) (lt c) p.1 → first (freeP ps) (lt c) p.2.1 → False)) (fun p => 6 - p.2.2.2.2)
    (s, u, out, false, 0) rfl rfl ⟨hI, by simp, by simp, by simp⟩ ?_
  rintro ⟨s', u', out', fo, b⟩ ⟨hI, hb, hm1, hm2⟩ L2 hL2
  simp only at hI hb hm1 hm2 hL2 ⊢
  rw [q49z10]
  obtain ⟨len1, len2⟩ := hI.len (Nat.le_refl 6) ls lu
  have done : (fo = false → apartF (freeP ps) 6 s' u') → p49z26 Try.prog K pv (S s') (S u') (S out') (B fo) L h := by
    intro hap
    rw [q49z26]
    cases fo with
    | false =>
      simp only [un_not, OP_some, Bool.not_false, IfP_true]
      exact C21 hp hg hl (by omega) hI.lm (hk _ _ _ ⟨hI, hap rfl⟩)
    | true =>
      simp only [un_not, OP_some, Bool.not_true, IfP_false, true_and]
      exact hL (s', u', out') hI (hm1 rfl)
  simp only [bin_leq, OP_some, lt_toNat (show b < 100 by omega)]
  by_cases hlt : b < 6
  · rw [decide_eq_true (show ((97 + b : Nat) : Int) ≤ 102 by omega)]
    simp only [q49z14, GdP_tt, un_not, OP_some, q49z16, iPick_t]
    cases fo with
    | true =>
      simp only [Bool.not_true, IfP_false]
      exact done (fun h => by cases h)
    | false =>
      simp only [Bool.not_false, IfP_true]
      refine C59 hp hg hl (by omega) (C59 hp hg hl (by omega) ?_)
      have same : (first (freeP ps) (lt b) s' → first (freeP ps) (lt b) u' → False) → p49z25 Try.prog K pv (S s') (S u') (S out') (B false) (cv (lt b)) L L2 h := by
        intro hno
        rw [q49z25]
        simp only [bin_add, OP_some, lt_succ (show b < 60 by omega), true_and]
        refine hL2 (s', u', out', false, b + 1) ⟨hI, by show b + 1 ≤ 6; omega, hm1, fun h => ⟨(hm2 h).1, fun c hc => ?_⟩⟩ (by show 6 - (b + 1) < 6 - b; omega)
        by_cases hcb : c = b
        · subst hcb; exact hno
        · exact (hm2 h).2 c (by have : c < b + 1 := hc; omega)
      simp only [bin_geq, OP_some]
      cases h1 : firstAt (freeP ps) (lt b) s' 0 with
      | none =>
        rw [q49z22, decide_eq_false (show ¬ (0 : Int) ≤ optI none by simp [optI])]
        simp only [GdP_ft, q49z24, iPick_f, OP_some, IfP_false]
        exact same fun ⟨i, hi⟩ _ => by rw [h1] at hi; cases hi
      | some i =>
        rw [q49z22, decide_eq_true (show (0 : Int) ≤ optI (some i) by simp [optI])]
        simp only [GdP_tt, bin_geq, OP_some]
        cases h2 : firstAt (freeP ps) (lt b) u' 0 with
        | none =>
          rw [q49z24, decide_eq_false (show ¬ (0 : Int) ≤ optI none by simp [optI])]
          simp only [iPick_t, OP_some, IfP_false]
          exact same fun _ ⟨i, hi⟩ => by rw [h2] at hi; cases hi
        | some j =>
          rw [q49z24, decide_eq_true (show (0 : Int) ≤ optI (some j) by simp [optI])]
          obtain ⟨hi, hix⟩ := firstAt_lt h1
          have hj := (firstAt_lt h2).1
          have w1 := without_length hi
          have w2 := without_length hj
          simp only [iPick_t, OP_some, IfP_true, optI, bin_add, inc i (by omega)]
          rw [slS_lh s' (by omega) (by omega)]
          have hsl : (s'.take (i + 1)).drop i = [lt b] := by
            rw [take_drop_one hi]
            rw [List.getElem?_eq_getElem hi] at hix
            simpa using hix
          rw [hsl]
          simp only [OP_some]
          rw [bin_addS _ _ (by simp only [List.length_cons, List.length_nil, maxLen]; omega)]
          simp only [OP_some]
          refine C60 hi (by omega) ⟨trivial, C60 hj (by omega) ⟨trivial, ?_⟩⟩
          rw [q49z25]
          simp only [bin_add, OP_some, lt_succ (show b < 60 by omega), true_and]
          refine hL2 (without s' i, without u' j, out' ++ [lt b], true, b + 1) ⟨hI.step hlt h1 h2, by show b + 1 ≤ 6; omega, fun _ => ?_, fun h => by cases h⟩ (by show 6 - (b + 1) < 6 - b; omega)
          show (without s' i).length < s.length
          have := (hm2 rfl).1
          omega
  · rw [decide_eq_false (show ¬ ((97 + b : Nat) : Int) ≤ 102 by omega)]
    simp only [q49z14, GdP_ft, q49z16, iPick_f, OP_some, IfP_false]
    exact done fun h c hc => (hm2 h).2 c (by omega)

end Go.Proofs.Ytjdlcokhlphmhaa

/-
  Meet and Join, both sides; the law.
-/
namespace Go.Proofs.Ytjdlcokhlphmhaa
open Go.Sim

theorem Lst_iff {ps : List (Int × Int)} {s t : List UInt8} (ls : letters 6 s) (lt' : letters 6 t) : eqv (freeP ps) 6 s t ↔ Lst ps s = Lst ps t := eqv_iff (freeP_symm ps) ls lt'
theorem Lst_eqv {ps : List (Int × Int)} {s : List UInt8} (ls : letters 6 s) : eqv (freeP ps) 6 (Lst ps s) s := eqv_least (freeP_symm ps) ls
theorem Lst_letters {ps : List (Int × Int)} {s : List UInt8} (ls : letters 6 s) : letters 6 (Lst ps s) ∧ (Lst ps s).length = s.length := leastF_letters ls rfl

/-- Each letter of one commutes with each letter of the other. -/
def freeAll (fr : UInt8 → UInt8 → Bool) (a b : List UInt8) : Bool := a.all fun c => b.all fun d => fr c d

theorem freeAll_iff {fr : UInt8 → UInt8 → Bool} {a b : List UInt8} : freeAll fr a b = true ↔ ∀ c ∈ a, ∀ d ∈ b, fr c d = true := by
  simp [freeAll, List.all_eq_true]

theorem mem_iff_of_eqv {fr : UInt8 → UInt8 → Bool} {n : Nat} {s t : List UInt8} (ls : letters n s) (h : eqv fr n s t) : ∀ c ∈ s, c ∈ t := by
  intro c hc
  obtain ⟨a, ha, rfl⟩ := ls c hc
  exact mem_only_of_eqv ha h hc

theorem freeAll_congr {fr : UInt8 → UInt8 → Bool} {n : Nat} {a b a' b' : List UInt8} (la : letters n a) (lb : letters n b) (la' : letters n a') (lb' : letters n b') (h1 : eqv fr n a a') (h2 : eqv fr n b b') : freeAll fr a b = freeAll fr a' b' := by
  rw [Bool.eq_iff_iff, freeAll_iff, freeAll_iff]
  exact ⟨fun h c hc d hd => h c (mem_iff_of_eqv la' h1.symm c hc) d (mem_iff_of_eqv lb' h2.symm d hd), fun h c hc d hd => h c (mem_iff_of_eqv la h1 c hc) d (mem_iff_of_eqv lb h2 d hd)⟩

theorem MeetR.unique {ps : List (Int × Int)} {s u m a b m' a' b' : List UInt8} (ls : letters 6 s) (lu : letters 6 u) (h : MeetR ps 6 s u m a b) (k : MeetR ps 6 s u m' a' b') :
    eqv (freeP ps) 6 m m' ∧ eqv (freeP ps) 6 a a' ∧ eqv (freeP ps) 6 b b' := by
  have hm := meet_unique (freeP_symm ps) h.lm k.lm h.la h.lb k.la k.lb ls lu h.ea h.eb h.ap k.ea k.eb k.ap
  refine ⟨hm, ?_, ?_⟩
  · exact eqv.cancel (u := m) (h.ea.trans (k.ea.symm.trans (hm.symm.append (eqv.refl _ _ a'))))
  · exact eqv.cancel (u := m) (h.eb.trans (k.eb.symm.trans (hm.symm.append (eqv.refl _ _ b'))))

def siV (s : List UInt8) (e : Int) : Value := .tuple #[S s, I e]
def sbV (s : List UInt8) (e : Bool) : Value := .tuple #[S s, B e]

theorem C47 {ps : List (Int × Int)} {pv : Value} {s u : List UInt8} {k : Int} {h : Heap} {K : Value → Heap → Prop} (hp : PS h pv ps) (hl : ps.length ≤ 100) (hs : s.length ≤ 1000) (hu : u.length ≤ 1000)
    (hno : whyE k ps [s, u] 40 ≠ 0 → K (siV [] (whyE k ps [s, u] 40)) h) (hyes : whyE k ps [s, u] 40 = 0 → ∀ m a b, MeetR ps 6 s u m a b → K (siV (Lst ps m) 0) h) : CallP Try.prog 47 [I k, pv, S s, S u] h K := by
  refine callP_gcE ?_
  refine f47 ?_
  simp only [T47, mkS2, OH_some]
  have hx : EX h (h ++ [.arr 9 [S s, S u]]) := EX.append _ _
  have hss : SS (h ++ [.arr 9 [S s, S u]]) (sl 9 h.length 0 2) [s, u] := SS.sl (ls := [s, u]) (by simp [objCells])
  refine C56 (most := 40) (hp.mono hx) hl hss (by simp) (by simp; exact ⟨hs, hu⟩) (fun hw => ?_) (fun hw => ?_)
  · simp only [ext_tuple, pair0, pair1, OP_some, bin_neq, decide_eq_false hw, Bool.not_false, IfP_true]
    exact ⟨hx, Ren.si _ _, hno hw⟩
  · obtain ⟨ht, hse⟩ := whyE_ok hw
    have hy2 := hyes hw
    obtain ⟨n, rfl, hn1, hn6⟩ := threadsOk_k ht
    have hok := seamsE_ok hse
    have ls := letters_of (hok s (by simp)).2
    have lu := letters_of (hok u (by simp)).2
    generalize hh1 : h ++ [.arr 9 [S s, S u]] = h1 at *
    simp only [ext_tuple, pair0, pair1, OP_some, bin_neq, decide_true, Bool.not_true, IfP_false]
    have hth : TH (h1 ++ [.arr 138 (tcells n (cmOf ps))]) (pt h1.length 0) n (cmOf ps) := ⟨h1.length, rfl, by simp [objCells]⟩
    refine C80 hth hn6 ls lu hs hu ?_
    intro m a b hm
    have hlen := hm.len hn6 ls lu
    have e0 : (#[S m, S a, S b] : Array Value)[0]? = some (S m) := rfl
    have e1 : (#[S m, S a, S b] : Array Value)[1]? = some (S a) := rfl
    have e2 : (#[S m, S a, S b] : Array Value)[2]? = some (S b) := rfl
    simp only [ext_tuple, e0, e1, e2, OP_some]
    refine C57 (k := n) hth hn6 (by omega) hm.lm ?_
    rw [Lst_eq hn6 hm.lm]
    exact ⟨hx.push _, Ren.si _ _, hy2 m a b (hm.six hn6)⟩

def joinV (ps : List (Int × Int)) (m a b : List UInt8) : Value := if freeAll (freeP ps) a b then siV (Lst ps (m ++ a ++ b)) 0 else siV [] 5

theorem C48 {ps : List (Int × Int)} {pv : Value} {s u : List UInt8} {k : Int} {h : Heap} {K : Value → Heap → Prop} (hp : PS h pv ps) (hl : ps.length ≤ 100) (hs : s.length ≤ 100) (hu : u.length ≤ 100)
    (hno : whyE k ps [s, u] 40 ≠ 0 → K (siV [] (whyE k ps [s, u] 40)) h) (hyes : whyE k ps [s, u] 40 = 0 → ∀ m a b, MeetR ps 6 s u m a b → K (joinV ps m a b) h) : CallP Try.prog 48 [I k, pv, S s, S u] h K := by
  refine callP_gcE ?_
  refine f48 ?_
  simp only [T48, mkS2, OH_some]
  have hx : EX h (h ++ [.arr 9 [S s, S u]]) := EX.append _ _
  have hss : SS (h ++ [.arr 9 [S s, S u]]) (sl 9 h.length 0 2) [s, u] := SS.sl (ls := [s, u]) (by simp [objCells])
  refine C56 (most := 40) (hp.mono hx) hl hss (by simp) (by simp; exact ⟨by omega, by omega⟩) (fun hw => ?_) (fun hw => ?_)
  · simp only [ext_tuple, pair0, pair1, OP_some, bin_neq, decide_eq_false hw, Bool.not_false, IfP_true]
    exact ⟨hx, Ren.si _ _, hno hw⟩
  · obtain ⟨ht, hse⟩ := whyE_ok hw
    have hy2 := hyes hw
    obtain ⟨n, rfl, hn1, hn6⟩ := threadsOk_k ht
    have hok := seamsE_ok hse
    have ls := letters_of (hok s (by simp)).2
    have lu := letters_of (hok u (by simp)).2
    generalize hh1 : h ++ [.arr 9 [S s, S u]] = h1 at *
    simp only [ext_tuple, pair0, pair1, OP_some, bin_neq, decide_true, Bool.not_true, IfP_false]
    have hth : TH (h1 ++ [.arr 138 (tcells n (cmOf ps))]) (pt h1.length 0) n (cmOf ps) := ⟨h1.length, rfl, by simp [objCells]⟩
    have x2 : EX h (h1 ++ [.arr 138 (tcells n (cmOf ps))]) := hx.push _
    generalize h1 ++ [IObj.arr 138 (tcells n (cmOf ps))] = h2 at hth x2 ⊢
    generalize pt h1.length 0 = tv at hth ⊢
    refine C80 hth hn6 ls lu (by omega) (by omega) ?_
    intro m a b hm
    have hlen := hm.len hn6 ls lu
    have hyes := hy2 m a b (hm.six hn6)
    have e0 : (#[S m, S a, S b] : Array Value)[0]? = some (S m) := rfl
    have e1 : (#[S m, S a, S b] : Array Value)[1]? = some (S a) := rfl
    have e2 : (#[S m, S a, S b] : Array Value)[2]? = some (S b) := rfl
    simp only [ext_tuple, e0, e1, e2, OP_some, lenS_S]
    unfold joinV at hyes
    refine loopL (σ := Nat) (fun i => [I i]) (fun _ => h2) (fun i => i ≤ a.length ∧ ∀ (j : Nat) (hj : j < a.length), j < i → ∀ d ∈ b, freeP ps a[j] d = true) (fun i => a.length - i) 0 rfl rfl ⟨by omega, fun j _ h => by omega⟩ ?_
    rintro i ⟨hi, hf⟩ L hL
    rw [q48z10]
    simp only [bin_lss, OP_some, IfP_dec, lenS_S]
    refine ⟨fun hlt => ?_, fun hge => ?_⟩
    · have hlt' : i < a.length := by omega
      refine loopL (σ := Nat) (fun i => [I i]) (fun _ => h2) (fun j => j ≤ b.length ∧ ∀ (l : Nat) (hj : l < b.length), l < j → freeP ps a[i] b[l] = true) (fun i => b.length - i) 0 rfl rfl ⟨by omega, fun j _ h => by omega⟩ ?_
      rintro j ⟨hj, hfj⟩ L2 hL2
      rw [q48z18]
      simp only [bin_lss, OP_some, IfP_dec]
      refine ⟨fun hlt => ?_, fun hge => ?_⟩
      · have hlt2 : j < b.length := by omega
        rw [idxS_S a hlt', idxS_S b hlt2]
        simp only [OP_some]
        obtain ⟨x, hx6, ex⟩ := hm.la _ (List.getElem_mem hlt')
        obtain ⟨y, hy6, ey⟩ := hm.lb _ (List.getElem_mem hlt2)
        have hfr : frM (cmOf ps) (lt x) (lt y) = freeP ps a[i] b[j] := by rw [ex, ey]; exact frM_cmOf ps (by omega) (by omega)
        have key : CallP Try.prog 81 [tv, cv a[i], cv b[j]] h2 fun v h => v = B (!freeP ps a[i] b[j]) ∧ h = h2 := by
          rw [ex, ey]
          refine C81 hth (by omega) (by omega) ?_
          rw [hfr, ex, ey]
          exact ⟨rfl, rfl⟩
        refine key.mono ?_
        rintro v h' ⟨rfl, rfl⟩
        refine ⟨trivial, ?_⟩
        cases hfa : freeP ps a[i] b[j] with
        | false =>
          simp only [Bool.not_false, IfP_true]
          have : freeAll (freeP ps) a b = false := by
            rw [Bool.eq_false_iff]
            intro h
            rw [freeAll_iff] at h
            have := h _ (List.getElem_mem hlt') _ (List.getElem_mem hlt2)
            rw [hfa] at this
            cases this
          rw [this] at hyes
          exact ⟨x2, Ren.si _ _, hyes⟩
        | true =>
          simp only [Bool.not_true, IfP_false, bin_add, OP_some, inc j (by omega), true_and]
          refine hL2 (j + 1) ⟨by omega, fun l hl hlj => ?_⟩ (by omega)
          by_cases hlj2 : l = j
          · subst hlj2; exact hfa
          · exact hfj l hl (by omega)
      · have : j = b.length := by omega
        subst this
        rw [q48z26]
        simp only [bin_add, OP_some, inc i (by omega), true_and]
        refine hL (i + 1) ⟨by omega, fun l hl hlj => ?_⟩ (by omega)
        by_cases hlj2 : l = i
        · subst hlj2
          intro d hd
          obtain ⟨e, he, rfl⟩ := List.mem_iff_getElem.1 hd
          exact hfj e he he
        · exact hf l hl (by omega)
    · have : i = a.length := by omega
      subst this
      rw [q48z27]
      have : freeAll (freeP ps) a b = true := by
        rw [freeAll_iff]
        intro c hc d hd
        obtain ⟨e, he, rfl⟩ := List.mem_iff_getElem.1 hc
        exact hf e he he d hd
      rw [this] at hyes
      rw [bin_addS _ _ (by simp only [maxLen]; omega)]
      simp only [OP_some]
      rw [bin_addS _ _ (by simp only [List.length_append, maxLen]; omega)]
      simp only [OP_some]
      have lall := letters_append (letters_append hm.lm hm.la) hm.lb
      refine C57 (k := n) hth hn6 (by simp; omega) lall ?_
      rw [Lst_eq hn6 lall]
      exact ⟨x2, Ren.si _ _, hyes⟩

def joinB (ps : List (Int × Int)) (m a b : List UInt8) : Value := if freeAll (freeP ps) a b then sbV (Lst ps (m ++ a ++ b)) true else sbV [] false

theorem C50 {ps : List (Int × Int)} {pv : Value} {s u : List UInt8} {h : Heap} {K : Value → Heap → Prop} (hp : PS h pv ps) (hg : good ps) (hl : ps.length ≤ 100) (hs : s.length ≤ 100) (hu : u.length ≤ 100) (ls : letters 6 s) (lu : letters 6 u)
    (hk : ∀ m a b, MeetR ps 6 s u m a b → K (joinB ps m a b) h) : CallP Try.prog 50 [pv, S s, S u] h K := by
  refine f50 ?_
  simp only [T50]
  refine C49 hp hg hl ls lu (by omega) (by omega) ?_
  intro m a b hm
  have hlen := hm.len (Nat.le_refl 6) ls lu
  obtain ⟨lm, hml⟩ := Lst_letters (ps := ps) hm.lm
  have em := Lst_eqv (ps := ps) hm.lm
  obtain ⟨y, y1, y2, y3⟩ := divG_complete (freeP_symm ps) lm ls hm.la ((em.append (eqv.refl _ _ a)).trans hm.ea)
  obtain ⟨z, z1, z2, z3⟩ := divG_complete (freeP_symm ps) lm lu hm.lb ((em.append (eqv.refl _ _ b)).trans hm.eb)
  rw [← divG_eq] at y1 z1
  refine C52 hp hg hl (by omega) (by omega) ls ?_
  simp only [restV, y1, Option.map_some, divV, ext_tuple, pair0, pair1, OP_some]
  refine C52 hp hg hl (by omega) (by omega) lu ?_
  simp only [restV, z1, Option.map_some, divV, ext_tuple, pair0, pair1, OP_some]
  obtain ⟨ly, hyl⟩ := Lst_letters (ps := ps) y3
  obtain ⟨lz, hzl⟩ := Lst_letters (ps := ps) z3
  have ey := (Lst_eqv (ps := ps) y3).trans y2
  have ez := (Lst_eqv (ps := ps) z3).trans z2
  have hya := eqv_length (freeP_symm ps) ly hm.la ey
  have hzb := eqv_length (freeP_symm ps) lz hm.lb ez
  have hk := hk m a b hm
  have e1 : freeAll (freeP ps) a b = freeAll (freeP ps) (Lst ps y) (Lst ps z) := freeAll_congr hm.la hm.lb ly lz ey.symm ez.symm
  have e2 : Lst ps (m ++ a ++ b) = Lst ps (Lst ps m ++ Lst ps y ++ Lst ps z) :=
    (Lst_iff (letters_append (letters_append hm.lm hm.la) hm.lb) (letters_append (letters_append lm ly) lz)).1 ((em.symm.append ey.symm).append ez.symm)
  unfold joinB at hk
  rw [e1, e2] at hk
  have hml : (Lst ps m).length ≤ 100 := by omega
  generalize Lst ps m = x at *
  generalize Lst ps y = y at *
  generalize Lst ps z = z at *
  refine loopL (σ := Nat) (fun i => [I i]) (fun _ => h) (fun i => i ≤ y.length ∧ ∀ (j : Nat) (hj : j < y.length), j < i → ∀ d ∈ z, freeP ps y[j] d = true) (fun i => y.length - i) 0 rfl rfl ⟨by omega, fun j _ h => by omega⟩ ?_
  rintro i ⟨hi, hf⟩ L hL
  rw [q50z8]
  simp only [bin_lss, OP_some, IfP_dec, lenS_S]
  refine ⟨fun hlt => ?_, fun hge => ?_⟩
  · have hlt' : i < y.length := by omega
    refine loopL (σ := Nat) (fun i => [I i]) (fun _ => h) (fun j => j ≤ z.length ∧ ∀ (l : Nat) (hj : l < z.length), l < j → freeP ps y[i] z[l] = true) (fun i => z.length - i) 0 rfl rfl ⟨by omega, fun j _ h => by omega⟩ ?_
    rintro j ⟨hj, hfj⟩ L2 hL2
    rw [q50z15]
    simp only [bin_lss, OP_some, IfP_dec, lenS_S]
    refine ⟨fun hlt => ?_, fun hge => ?_⟩
    · have hlt2 : j < z.length := by omega
      rw [idxS_S y hlt', idxS_S z hlt2]
      simp only [OP_some]
      refine C33 hp hg hl ?_
      refine ⟨trivial, ?_⟩
      cases hfa : freeP ps y[i] z[j] with
      | false =>
        simp only [un_not, OP_some, Bool.not_false, IfP_true]
        have : freeAll (freeP ps) y z = false := by
          rw [Bool.eq_false_iff]
          intro h
          rw [freeAll_iff] at h
          have := h _ (List.getElem_mem hlt') _ (List.getElem_mem hlt2)
          rw [hfa] at this
          cases this
        rw [this] at hk
        exact hk
      | true =>
        simp only [un_not, Bool.not_true, IfP_false, bin_add, OP_some, inc j (by omega), true_and]
        refine hL2 (j + 1) ⟨by omega, fun l hl hlj => ?_⟩ (by omega)
        by_cases hlj2 : l = j
        · subst hlj2; exact hfa
        · exact hfj l hl (by omega)
    · have : j = z.length := by omega
      subst this
      rw [q50z22]
      simp only [bin_add, OP_some, inc i (by omega), true_and]
      refine hL (i + 1) ⟨by omega, fun l hl hlj => ?_⟩ (by omega)
      by_cases hlj2 : l = i
      · subst hlj2
        intro d hd
        obtain ⟨e, he, rfl⟩ := List.mem_iff_getElem.1 hd
        exact hfj e he he
      · exact hf l hl (by omega)
  · have : i = y.length := by omega
    subst this
    rw [q50z23]
    have : freeAll (freeP ps) y z = true := by
      rw [freeAll_iff]
      intro c hc d hd
      obtain ⟨e, he, rfl⟩ := List.mem_iff_getElem.1 hc
      exact hf e he he d hd
    rw [this] at hk
    rw [bin_addS _ _ (by simp only [maxLen]; omega)]
    simp only [OP_some]
    rw [bin_addS _ _ (by simp only [List.length_append, maxLen]; omega)]
    simp only [OP_some]
    exact C21 hp hg hl (by simp; omega) (letters_append (letters_append lm ly) lz) hk

end Go.Proofs.Ytjdlcokhlphmhaa

/-
  Seams that are equal by construction; what Rest, Meet and Join answer at valid seams; Levi's law.
-/
namespace Go.Proofs.Ytjdlcokhlphmhaa
open Go.Sim

theorem swap_eqv {ps : List (Int × Int)} {t : List UInt8} {j : Nat} (hj : j + 1 < t.length) (hf : freeP ps (t[j]'(by omega)) t[j + 1] = true) : eqv (freeP ps) 6 (swapAt t j) t := by
  have e1 : (t.take (j + 1)).drop j = [t[j]'(by omega)] := take_drop_one (by omega)
  have e2 : (t.take (j + 2)).drop (j + 1) = [t[j + 1]] := take_drop_one hj
  have e3 : t = t.take j ++ ([t[j]'(by omega)] ++ [t[j + 1]]) ++ t.drop (j + 2) := by
    have h1 : t = t.take j ++ t.drop j := (List.take_append_drop j t).symm
    have h2 : t.drop j = t[j]'(by omega) :: t.drop (j + 1) := List.drop_eq_getElem_cons (by omega)
    have h3 : t.drop (j + 1) = t[j + 1] :: t.drop (j + 2) := List.drop_eq_getElem_cons hj
    rw [h3] at h2
    conv => lhs; rw [h1, h2]
    simp
  have e4 : swapAt t j = t.take j ++ ([t[j + 1]] ++ [t[j]'(by omega)]) ++ t.drop (j + 2) := by
    unfold swapAt
    rw [e1, e2]
    simp
  by_cases hx : t[j]'(by omega) = t[j + 1]
  · have : swapAt t j = t := by
      rw [e4]
      conv => rhs; rw [e3]
      rw [hx]
    rw [this]
    exact eqv.refl _ _ _
  · rw [e4]
    conv => arg 4; rw [e3]
    refine ((eqv.refl _ _ _).append (eqv.symm (eqv_comm (freeP_symm ps) ?_))).append (eqv.refl _ _ _)
    intro c hc e he
    rw [List.mem_singleton] at hc he
    subst hc
    subst he
    exact ⟨hx, hf⟩

/-- A seam shuffled is an equal seam. -/
theorem C32e {ps : List (Int × Int)} {pv bv : Value} {n : Nat} {s : List UInt8} {ns : List Int} {h : Heap} {K : Value → Heap → Prop} (hp : PS h pv ps) (hg : good ps) (hl : ps.length ≤ 100) (hb : NS h bv .u8 ns) (hu : U8 ns) (hs : letters n s) (hls : s.length ≤ 1000)
    (hk : ∀ t, letters n t → t.length = s.length → eqv (freeP ps) 6 t s → K (S t) h) : CallP Try.prog 32 [pv, S s, bv] h K := by
  refine f32 ?_
  refine loopL (σ := List UInt8 × Nat) (fun p => [S p.1, I p.2]) (fun _ => h) (fun p => letters n p.1 ∧ p.1.length = s.length ∧ eqv (freeP ps) 6 p.1 s ∧ p.2 ≤ ns.length) (fun p => ns.length - p.2) (s, 0) rfl rfl ⟨hs, rfl, eqv.refl _ _ _, by omega⟩ ?_
  rintro ⟨t, i⟩ ⟨ht, htl, hte, hi⟩ L hL
  simp only at ht htl hte hi hL ⊢
  rw [q32z5]
  simp only [hb.len, OP_some, bin_lss, q32z9]
  have done : p32z17 Try.prog K (S t) h := by rw [q32z17]; exact hk t ht htl hte
  have hmax := hb.le
  by_cases h1 : (i : Int) < ns.length
  · have next : ∀ t', letters n t' → t'.length = s.length → eqv (freeP ps) 6 t' s → p32z16 Try.prog K pv (S t') bv (I i) L h := by
      intro t' h2 h3 h4
      simp only [q32z16, bin_add, OP_some, incM i (by omega), true_and]
      exact hL (t', i + 1) ⟨h2, h3, h4, by show i + 1 ≤ ns.length; omega⟩ (by simp; omega)
    simp only [decide_eq_true h1, GdP_tt, lenS_S, OP_some, bin_gtr, q32z11, iPick_t, IfP_dec]
    refine ⟨fun h2 => ?_, fun _ => done⟩
    obtain ⟨b, o, g1, g2⟩ := hb.get i (by omega)
    obtain ⟨u1, u2⟩ := hu _ (List.getElem_mem (show i < ns.length by omega))
    generalize ns[i] = m at g2 u1 u2
    obtain ⟨m, rfl⟩ : ∃ j : Nat, m = j := ⟨m.toNat, by omega⟩
    simp only [g1, OP_some, g2, conv_int, bin_sub]
    have e1 : IntKind.wrap .i64 ((t.length : Int) - 1) = ((t.length - 1 : Nat) : Int) := by rw [wrap64 (by omega) (by omega)]; omega
    rw [wrap64 (by omega) (by omega), e1, rem_nat _ _ _ (by omega)]
    have hr : m % (t.length - 1) < t.length - 1 := Nat.mod_lt _ (by omega)
    generalize m % (t.length - 1) = j at hr
    simp only [OP_some]
    rw [idxS_S t (by omega)]
    simp only [OP_some, bin_add, inc j (by omega)]
    rw [idxS_S t (by omega)]
    simp only [OP_some]
    refine C33 hp hg hl ?_
    refine ⟨trivial, IfP_of (fun hfr => ?_) fun _ => next t ht htl hte⟩
    have := swapT (t := t) (i := j) (K := fun x58 => p32z16 Try.prog K pv x58 bv (I i) L h) (by omega) (by omega) (next _ (swapAt_letters ht j) (by rw [swapAt_length (by omega)]; exact htl) ((swap_eqv (by omega) hfr).trans hte))
    simpa only [bin_add, OP_some, inc j (by omega)] using this
  · simp only [decide_eq_false h1, GdP_ft, q32z11, iPick_f, OP_some, IfP_false]
    exact done

theorem letters_eqv {fr : UInt8 → UInt8 → Bool} {n : Nat} {s t : List UInt8} (ls : letters 6 s) (lt' : letters n t) (h : eqv fr 6 s t) : letters n s := fun c hc => lt' c (mem_iff_of_eqv ls h c hc)

theorem Lst_lettersN {ps : List (Int × Int)} {n : Nat} {s : List UInt8} (hn : n ≤ 6) (ls : letters n s) : letters n (Lst ps s) :=
  letters_eqv (Lst_letters (letters_le hn ls)).1 ls (Lst_eqv (letters_le hn ls))

theorem MeetR.lettersN {ps : List (Int × Int)} {n : Nat} {s u m a b : List UInt8} (h : MeetR ps 6 s u m a b) (ls : letters n s) (lu : letters n u) : letters n m ∧ letters n a ∧ letters n b := by
  have h1 := letters_eqv (letters_append h.lm h.la) ls h.ea
  have h2 := letters_eqv (letters_append h.lm h.lb) lu h.eb
  exact ⟨letters_left h1, letters_right h1, letters_right h2⟩

theorem restE_begins {n : Nat} {ps : List (Int × Int)} {s t r : List UInt8} (hn : n ≤ 6) (ht : threadsOk n ps = true) (ls : letters n s) (lt' : letters n t) (hs : s.length ≤ 40) (htl : t.length ≤ 40) (lr : letters 6 r) (h : eqv (freeP ps) 6 (s ++ r) t) :
    restE n ps s t = siV (Lst ps r) 0 := by
  obtain ⟨r', h1, h2, h3⟩ := divG_complete (freeP_symm ps) (letters_le hn ls) (letters_le hn lt') lr h
  have hw : whyE n ps [s, t] 40 = 0 := whyE_zero hn ht (by intro u hu; simp at hu; rcases hu with rfl | rfl; exact ⟨ls, hs⟩; exact ⟨lt', htl⟩)
  unfold restE
  rw [hw, if_pos rfl, divG_eq, h1]
  simp only [siV]
  rw [(Lst_iff h3 lr).1 h2]

theorem restE_not {n : Nat} {ps : List (Int × Int)} {s t : List UInt8} (hn : n ≤ 6) (ht : threadsOk n ps = true) (ls : letters n s) (lt' : letters n t) (hs : s.length ≤ 40) (htl : t.length ≤ 40) (h : ∀ r, letters 6 r → ¬ eqv (freeP ps) 6 (s ++ r) t) :
    restE n ps s t = siV [] 5 := by
  have hw : whyE n ps [s, t] 40 = 0 := whyE_zero hn ht (by intro u hu; simp at hu; rcases hu with rfl | rfl; exact ⟨ls, hs⟩; exact ⟨lt', htl⟩)
  unfold restE
  rw [hw, if_pos rfl, divG_eq]
  cases hd : divG (freeP ps) s t with
  | none => rfl
  | some r => exact absurd (divG_sound (freeP_symm ps) hd) (h r (divG_letters' (letters_le hn lt') hd))

/-- Rest, Meet and Join where all is valid. -/
theorem C51b {ps : List (Int × Int)} {pv : Value} {s t r : List UInt8} {n : Nat} {h : Heap} {K : Value → Heap → Prop} (hp : PS h pv ps) (hn : n ≤ 6) (ht : threadsOk n ps = true) (ls : letters n s) (lt' : letters n t) (hs : s.length ≤ 40) (htl : t.length ≤ 40)
    (lr : letters 6 r) (he : eqv (freeP ps) 6 (s ++ r) t) (hk : K (siV (Lst ps r) 0) h) : CallP Try.prog 51 [I n, pv, S s, S t] h K := by
  have hl := (threadsOk_good ht).2.2.2.1
  refine C51 hp (by omega) (by omega) (by omega) ?_
  rw [restE_begins hn ht ls lt' hs htl lr he]
  exact hk

theorem why2 {n : Nat} {ps : List (Int × Int)} {s t : List UInt8} (hn : n ≤ 6) (ht : threadsOk n ps = true) (ls : letters n s) (lt' : letters n t) (hs : s.length ≤ 40) (htl : t.length ≤ 40) : whyE n ps [s, t] 40 = 0 :=
  whyE_zero hn ht (by intro u hu; simp at hu; rcases hu with rfl | rfl; exact ⟨ls, hs⟩; exact ⟨lt', htl⟩)

theorem C47b {ps : List (Int × Int)} {pv : Value} {s t : List UInt8} {n : Nat} {h : Heap} {K : Value → Heap → Prop} (hp : PS h pv ps) (hn : n ≤ 6) (ht : threadsOk n ps = true) (ls : letters n s) (lt' : letters n t) (hs : s.length ≤ 40) (htl : t.length ≤ 40)
    (hk : ∀ m a b, MeetR ps 6 s t m a b → K (siV (Lst ps m) 0) h) : CallP Try.prog 47 [I n, pv, S s, S t] h K := by
  have hl := (threadsOk_good ht).2.2.2.1
  exact C47 hp (by omega) (by omega) (by omega) (fun hw => absurd (why2 hn ht ls lt' hs htl) hw) fun _ => hk

theorem C48b {ps : List (Int × Int)} {pv : Value} {s t : List UInt8} {n : Nat} {h : Heap} {K : Value → Heap → Prop} (hp : PS h pv ps) (hn : n ≤ 6) (ht : threadsOk n ps = true) (ls : letters n s) (lt' : letters n t) (hs : s.length ≤ 40) (htl : t.length ≤ 40)
    (hk : ∀ m a b, MeetR ps 6 s t m a b → K (joinV ps m a b) h) : CallP Try.prog 48 [I n, pv, S s, S t] h K := by
  have hl := (threadsOk_good ht).2.2.2.1
  exact C48 hp (by omega) (by omega) (by omega) (fun hw => absurd (why2 hn ht ls lt' hs htl) hw) fun _ => hk

end Go.Proofs.Ytjdlcokhlphmhaa

/-
  Levi's law.
-/
namespace Go.Proofs.Ytjdlcokhlphmhaa
open Go.Sim

theorem letters_take {n : Nat} {s : List UInt8} (h : letters n s) (i : Nat) : letters n (s.take i) := fun c hc => h c (List.mem_of_mem_take hc)
theorem letters_drop {n : Nat} {s : List UInt8} (h : letters n s) (i : Nat) : letters n (s.drop i) := fun c hc => h c (List.mem_of_mem_drop hc)

theorem C11 {kk f : Int} {xv0 xv1 : Value} {ns0 ns1 : List Int} {a0 a1 : Int} {h : Heap} {K : Value → Heap → Prop} (hk0 : 0 ≤ kk) (hk1 : kk < 256) (hx0 : NS h xv0 .u8 ns0) (hu0 : U8 ns0) (hx1 : NS h xv1 .u8 ns1) (hu1 : U8 ns1)
    (ha0 : 0 ≤ a0 ∧ a0 < 256) (ha1 : 0 ≤ a1 ∧ a1 < 256) (hk : ∀ h', K (.bool true) h') :
    CallP Try.prog 11 [.agg #[.int .u8 kk, .int .u16 f], .agg #[xv0, xv1], .agg #[.int .u8 a0, .int .u8 a1]] h K := by
  refine f11 ?_
  have e1 : iBox 54 h (.agg #[.int .u8 kk, .int .u16 f]) = some (pt h.length 0, h ++ [.arr 54 [.int .u8 kk, .int .u16 f]]) := rfl
  have e2 : iLoad true 2 (h ++ [.arr 54 [.int .u8 kk, .int .u16 f]]) (pt h.length 0) = some (.agg #[.int .u8 kk, .int .u16 f]) := by simp [iLoad, objCells, iPart]
  simp only [T11, e1, OH_some]
  have x1 : EX h (h ++ [.arr 54 [.int .u8 kk, .int .u16 f]]) := EX.append _ _
  generalize hA : h ++ [IObj.arr 54 [.int .u8 kk, .int .u16 f]] = h1 at *
  have e3 : iBox 83 h1 (.agg #[xv0, xv1]) = some (pt h1.length 0, h1 ++ [.arr 83 [xv0, xv1]]) := rfl
  simp only [e3, OH_some]
  have x2 : EX h1 (h1 ++ [.arr 83 [xv0, xv1]]) := EX.append _ _
  have l0 : iLoad false 1 (h1 ++ [.arr 83 [xv0, xv1]]) (pt h1.length 0) = some xv0 := load_last rfl
  have l1 : iLoad false 1 (h1 ++ [.arr 83 [xv0, xv1]]) (pt h1.length 1) = some xv1 := load_last rfl
  generalize hB : h1 ++ [IObj.arr 83 [xv0, xv1]] = h2 at *
  have e4 : iBox 67 h2 (.agg #[.int .u8 a0, .int .u8 a1]) = some (pt h2.length 0, h2 ++ [.arr 67 [.int .u8 a0, .int .u8 a1]]) := rfl
  simp only [e4, OH_some]
  have x3 : EX h2 (h2 ++ [.arr 67 [.int .u8 a0, .int .u8 a1]]) := EX.append _ _
  have m0 : iLoad false 1 (h2 ++ [.arr 67 [.int .u8 a0, .int .u8 a1]]) (pt h2.length 0) = some (.int .u8 a0) := load_last rfl
  have m1 : iLoad false 1 (h2 ++ [.arr 67 [.int .u8 a0, .int .u8 a1]]) (pt h2.length 1) = some (.int .u8 a1) := load_last rfl
  generalize hC : h2 ++ [IObj.arr 67 [.int .u8 a0, .int .u8 a1]] = h3 at *
  rw [EX.load (x2.trans x3) e2]
  simp only [OP_some]
  refine C30 hk0 hk1 ?_
  intro n ps hn1 hn6 ht
  have x4 : EX h3 (h3 ++ [.arr 98 (pcells ps)]) := EX.append _ _
  obtain ⟨hg, _, _, hl30, _⟩ := threadsOk_good ht
  have hps : PS (h3 ++ [.arr 98 (pcells ps)]) (sl 98 h3.length 0 ps.length) ps := PS.sl (by simp [objCells])
  have ex : EX h (h3 ++ [.arr 98 (pcells ps)]) := ((x1.trans x2).trans x3).trans x4
  have l0 := EX.load (x3.trans x4) l0
  have l1 := EX.load (x3.trans x4) l1
  have m0 := EX.load x4 m0
  have m1 := EX.load x4 m1
  have hx0 := hx0.mono ex
  have hx1 := hx1.mono ex
  simp only [ext_tuple, pair0, pair1, OP_some]
  generalize sl 98 h3.length 0 ps.length = qv at hps ⊢
  generalize h3 ++ [IObj.arr 98 (pcells ps)] = hx at hps l0 l1 m0 m1 hx0 hx1 ⊢
  have d0 : ∀ i, iAdrArr 2 1 (pt i 0) (.int .i64 0) = some (pt i 0) := fun i => rfl
  have d1 : ∀ i, iAdrArr 2 1 (pt i 0) (.int .i64 1) = some (pt i 1) := fun i => rfl
  simp only [d0, d1, OP_some, l0, l1, m0, m1]
  refine C31 (most := 24) hn1 hn6 (by omega) hx0 hu0 ?_
  intro w hw hw24
  simp only [l1, OP_some]
  refine C32e hps hg (by omega) hx1 hu1 hw (by omega) ?_
  intro o ho hol hoe
  simp only [m0, m1, OP_some]
  obtain ⟨i, rfl⟩ : ∃ j : Nat, a0 = j := ⟨a0.toNat, by omega⟩
  obtain ⟨j, rfl⟩ : ∃ j : Nat, a1 = j := ⟨a1.toNat, by omega⟩
  simp only [conv_int, OP_some, lenS_S, bin_add, true_and, m1]
  rw [wrap64 (by omega) (by omega), inc w.length (by omega), rem_nat _ _ _ (by omega)]
  simp only [OP_some]
  rw [wrap64 (by omega) (by omega), rem_nat _ _ _ (by omega)]
  have hi : i % (w.length + 1) ≤ w.length := by have := Nat.mod_lt i (show w.length + 1 > 0 by omega); omega
  have hj : j % (w.length + 1) ≤ o.length := by have := Nat.mod_lt j (show w.length + 1 > 0 by omega); omega
  generalize i % (w.length + 1) = i at hi
  generalize j % (w.length + 1) = j at hj
  simp only [OP_some]
  rw [slS_hi w hi]
  simp only [OP_some]
  rw [slS_lo w hi]
  simp only [OP_some]
  rw [slS_hi o hj]
  simp only [OP_some]
  rw [slS_lo o hj]
  simp only [OP_some]
  have ls := letters_take hw i
  have lt' := letters_drop hw i
  have lu := letters_take ho j
  have lv := letters_drop ho j
  have hst : eqv (freeP ps) 6 (w.take i ++ w.drop i) (o.take j ++ o.drop j) := by
    rw [List.take_append_drop, List.take_append_drop]
    exact hoe.symm
  have hsl : (w.take i).length ≤ 24 := by rw [List.length_take]; omega
  have htl : (w.drop i).length ≤ 24 := by rw [List.length_drop]; omega
  have hul : (o.take j).length ≤ 24 := by rw [List.length_take]; omega
  have hvl : (o.drop j).length ≤ 24 := by rw [List.length_drop]; omega
  generalize w.take i = s at *
  generalize w.drop i = t at *
  generalize o.take j = u at *
  generalize o.drop j = v at *
  refine C47b hps hn6 ht ls lu (by omega) (by omega) ?_
  intro m a b hm
  simp only [siV, ext_tuple, pair0, pair1, OP_some]
  obtain ⟨lm, la, lb⟩ := hm.lettersN ls lu
  obtain ⟨len1, len2⟩ := hm.len (Nat.le_refl 6) (letters_le hn6 ls) (letters_le hn6 lu)
  have lm6 := Lst_letters (ps := ps) hm.lm
  have la6 := Lst_letters (ps := ps) hm.la
  have lb6 := Lst_letters (ps := ps) hm.lb
  have em := Lst_eqv (ps := ps) hm.lm
  have eA := Lst_eqv (ps := ps) hm.la
  have eB := Lst_eqv (ps := ps) hm.lb
  refine C51b hps hn6 ht (Lst_lettersN hn6 lm) ls (by omega) (by omega) hm.la ((em.append (eqv.refl _ _ a)).trans hm.ea) ?_
  simp only [siV, ext_tuple, pair0, pair1, OP_some]
  refine C51b hps hn6 ht (Lst_lettersN hn6 lm) lu (by omega) (by omega) hm.lb ((em.append (eqv.refl _ _ b)).trans hm.eb) ?_
  simp only [siV, ext_tuple, pair0, pair1, OP_some, bin_neq, decide_true, Bool.not_true, q11z13, GdP_ff, q11z15, iPick_f, q11z17, q11z19, q11z21]
  refine C20 ?_
  simp only [un_not, OP_some, Bool.not_true, q11z23, iPick_f, IfP_false]
  have hlev : eqv (freeP ps) 6 (Lst ps a ++ t) (Lst ps b ++ v) := by
    have g1 : eqv (freeP ps) 6 (m ++ (a ++ t)) (m ++ (b ++ v)) := by
      rw [← List.append_assoc, ← List.append_assoc]
      exact ((hm.ea.append (eqv.refl _ _ t)).trans hst).trans (hm.eb.append (eqv.refl _ _ v)).symm
    exact ((eA.append (eqv.refl _ _ t)).trans g1.cancel).trans (eB.append (eqv.refl _ _ v)).symm
  have hap : apartF (freeP ps) 6 (Lst ps a) (Lst ps b) := hm.ap.congr hm.la hm.lb la6.1 lb6.1 eA eB
  obtain ⟨hcom, r, lr, hr1, hr2⟩ := levi (freeP_symm ps) lb6.1 la6.1 (letters_le hn6 lt') (letters_le hn6 lv) hlev hap
  refine C51b hps hn6 ht (Lst_lettersN hn6 lb) lt' (by omega) (by omega) lr hr1 ?_
  simp only [siV, ext_tuple, pair0, pair1, OP_some]
  refine C51b hps hn6 ht (Lst_lettersN hn6 la) lv (by omega) (by omega) lr hr2 ?_
  simp only [siV, ext_tuple, pair0, pair1, OP_some, bin_neq, decide_true, Bool.not_true, q11z30, GdP_ff, q11z32, iPick_f, q11z34, bin_neqS, q11z36, IfP_false]
  have hyl : (Lst ps a).length ≤ 24 := by omega
  have hzl : (Lst ps b).length ≤ 24 := by omega
  generalize Lst ps a = y at *
  generalize Lst ps b = z at *
  refine loopL (σ := Nat) (fun i => [I i]) (fun _ => hx) (fun i => i ≤ y.length) (fun i => y.length - i) 0 rfl rfl (by omega) ?_
  intro i hi L hL
  rw [q11z41]
  simp only [lenS_S, bin_lss, OP_some, IfP_dec]
  refine ⟨fun hlt => ?_, fun _ => hk _⟩
  have hlt' : i < y.length := by omega
  refine loopL (σ := Nat) (fun i => [I i]) (fun _ => hx) (fun i => i ≤ z.length) (fun i => z.length - i) 0 rfl rfl (by omega) ?_
  intro j hj L2 hL2
  rw [q11z48]
  simp only [lenS_S, bin_lss, OP_some, IfP_dec]
  refine ⟨fun hlt2 => ?_, fun _ => ?_⟩
  · have hlt2' : j < z.length := by omega
    rw [idxS_S y hlt', idxS_S z hlt2']
    simp only [OP_some]
    refine C33 hps hg (by omega) ?_
    rw [(hcom _ (List.getElem_mem hlt') _ (List.getElem_mem hlt2')).2]
    simp only [un_not, OP_some, Bool.not_true, IfP_false, true_and, bin_add, inc j (by omega)]
    exact hL2 (j + 1) (by omega) (by omega)
  · simp only [q11z55, bin_add, OP_some, inc i (by omega), true_and]
    exact hL (i + 1) (by omega) (by omega)

end Go.Proofs.Ytjdlcokhlphmhaa

/-
  Meet is the greatest common beginning, Join the least common continuation; the law.
-/
namespace Go.Proofs.Ytjdlcokhlphmhaa
open Go.Sim

theorem MeetR.swap {ps : List (Int × Int)} {n : Nat} {s u m a b : List UInt8} (h : MeetR ps n s u m a b) : MeetR ps n u s m b a := ⟨⟨h.lm, h.lb, h.la, h.eb, h.ea⟩, h.ap.symm⟩

theorem meetI_end {ps : List (Int × Int)} {s u : List UInt8} : ∀ (k : Nat) {m a b : List UInt8}, a.length ≤ k → MeetI ps 6 s u m a b → ∃ m' a' b', MeetR ps 6 s u m' a' b' ∧ ∃ r, letters 6 r ∧ m' = m ++ r
  | k, m, a, b, hk, h => by
    by_cases hap : apartF (freeP ps) 6 a b
    · exact ⟨m, a, b, ⟨h, hap⟩, [], fun c hc => by simp at hc, by simp⟩
    · have : ∃ c, c < 6 ∧ first (freeP ps) (lt c) a ∧ first (freeP ps) (lt c) b := by
        apply Classical.byContradiction
        intro hno
        exact hap fun c hc h1 h2 => hno ⟨c, hc, h1, h2⟩
      obtain ⟨c, hc, ⟨i, hi⟩, ⟨j, hj⟩⟩ := this
      have hil := (firstAt_lt hi).1
      have hw := without_length hil
      match k with
      | 0 => omega
      | k + 1 =>
        obtain ⟨m', a', b', h1, r, lr, h2⟩ := meetI_end k (by omega) (h.step hc hi hj)
        refine ⟨m', a', b', h1, lt c :: r, ?_, by rw [h2]; simp⟩
        intro d hd
        rcases List.mem_cons.1 hd with rfl | hd
        · exact ⟨c, hc, rfl⟩
        · exact lr d hd

/-- What begins both begins their Meet. -/
theorem meet_greatest {ps : List (Int × Int)} {s u m a b x s1 u1 : List UInt8} (ls : letters 6 s) (lu : letters 6 u) (h : MeetR ps 6 s u m a b) (lx : letters 6 x) (ls1 : letters 6 s1) (lu1 : letters 6 u1)
    (h1 : eqv (freeP ps) 6 (x ++ s1) s) (h2 : eqv (freeP ps) 6 (x ++ u1) u) : ∃ r, letters 6 r ∧ eqv (freeP ps) 6 (x ++ r) m := by
  obtain ⟨m', a', b', hm, r, lr, rfl⟩ := meetI_end (s1.length) (Nat.le_refl _) (⟨lx, ls1, lu1, h1, h2⟩ : MeetI ps 6 s u x s1 u1)
  exact ⟨r, lr, (hm.unique ls lu h).1⟩

theorem freeP_self {n : Nat} {ps : List (Int × Int)} (ht : threadsOk n ps = true) {a : Nat} (ha : a < 6) : freeP ps (lt a) (lt a) = false := by
  unfold freeP
  rw [List.any_eq_false]
  intro p hp
  obtain ⟨_, _, _, _, h⟩ := threadsOk_good ht
  have := h p hp
  simp [hit, lt_toNat (show a < 100 by omega)]
  omega

theorem freeAll_comm {ps : List (Int × Int)} {a b : List UInt8} : freeAll (freeP ps) a b = freeAll (freeP ps) b a := by
  rw [Bool.eq_iff_iff, freeAll_iff, freeAll_iff]
  exact ⟨fun h c hc d hd => by rw [freeP_symm]; exact h d hd c hc, fun h c hc d hd => by rw [freeP_symm]; exact h d hd c hc⟩

theorem freeAll_swap {n : Nat} {ps : List (Int × Int)} {a b : List UInt8} (ht : threadsOk n ps = true) (la : letters 6 a) (h : freeAll (freeP ps) a b = true) : eqv (freeP ps) 6 (a ++ b) (b ++ a) := by
  refine eqv_comm (freeP_symm ps) fun c hc d hd => ?_
  have hf := freeAll_iff.1 h c hc d hd
  refine ⟨?_, hf⟩
  rintro rfl
  obtain ⟨x, hx, rfl⟩ := la c hc
  rw [freeP_self ht hx] at hf
  cases hf

theorem mkS1 (s : List UInt8) (h : Heap) : iMkSl 9 1 [.string ⟨#[]⟩] h [(0, 1, S s)] = some (sl 9 h.length 0 1, h ++ [.arr 9 [S s]]) := by
  simp [iMkSl, fillL, zrep, noTuple, vcells, Value.cells, setAt, S]

theorem C41 {ps : List (Int × Int)} {pv : Value} {s : List UInt8} {k : Int} {h : Heap} {K : Value → Heap → Prop} (hp : PS h pv ps) (hl : ps.length ≤ 100) (hs : s.length ≤ 1000)
    (hno : whyE k ps [s] 40 ≠ 0 → K (siV [] (whyE k ps [s] 40)) h) (hyes : whyE k ps [s] 40 = 0 → K (siV (Lst ps s) 0) h) : CallP Try.prog 41 [I k, pv, S s] h K := by
  refine callP_gcE ?_
  refine f41 ?_
  simp only [T41, mkS1, OH_some]
  have hx : EX h (h ++ [.arr 9 [S s]]) := EX.append _ _
  have hss : SS (h ++ [.arr 9 [S s]]) (sl 9 h.length 0 1) [s] := SS.sl (ls := [s]) (by simp [objCells])
  refine C56 (most := 40) (hp.mono hx) hl hss (by simp) (by simp; exact hs) (fun hw => ?_) (fun hw => ?_)
  · simp only [ext_tuple, pair0, pair1, OP_some, bin_neq, decide_eq_false hw, Bool.not_false, IfP_true]
    exact ⟨hx, Ren.si _ _, hno hw⟩
  · obtain ⟨ht, hse⟩ := whyE_ok hw
    have hy2 := hyes hw
    obtain ⟨n, rfl, hn1, hn6⟩ := threadsOk_k ht
    have hok := seamsE_ok hse
    have ls := letters_of (hok s (by simp)).2
    generalize hh1 : h ++ [.arr 9 [S s]] = h1 at *
    simp only [ext_tuple, pair0, pair1, OP_some, bin_neq, decide_true, Bool.not_true, IfP_false]
    have hth : TH (h1 ++ [.arr 138 (tcells n (cmOf ps))]) (pt h1.length 0) n (cmOf ps) := ⟨h1.length, rfl, by simp [objCells]⟩
    refine C57 (k := n) hth hn6 hs ls ?_
    rw [Lst_eq hn6 ls]
    exact ⟨hx.push _, Ren.si _ _, hy2⟩

theorem why1 {n : Nat} {ps : List (Int × Int)} {s : List UInt8} (hn : n ≤ 6) (ht : threadsOk n ps = true) (ls : letters n s) (hs : s.length ≤ 40) : whyE n ps [s] 40 = 0 :=
  whyE_zero hn ht (by intro u hu; simp at hu; rcases hu with rfl; exact ⟨ls, hs⟩)

theorem C41b {ps : List (Int × Int)} {pv : Value} {s : List UInt8} {n : Nat} {h : Heap} {K : Value → Heap → Prop} (hp : PS h pv ps) (hn : n ≤ 6) (ht : threadsOk n ps = true) (ls : letters n s) (hs : s.length ≤ 40)
    (hk : K (siV (Lst ps s) 0) h) : CallP Try.prog 41 [I n, pv, S s] h K := by
  have hl := (threadsOk_good ht).2.2.2.1
  exact C41 hp (by omega) (by omega) (fun hw => absurd (why1 hn ht ls hs) hw) fun _ => hk

theorem C15 {kk f : Int} {xv0 xv1 zv : Value} {ns0 ns1 zs : List Int} {h : Heap} {K : Value → Heap → Prop} (hk0 : 0 ≤ kk) (hk1 : kk < 256) (hx0 : NS h xv0 .u8 ns0) (hu0 : U8 ns0) (hx1 : NS h xv1 .u8 ns1) (hu1 : U8 ns1)
    (hz : NS h zv .u8 zs) (huz : U8 zs) (hk : ∀ h', K (.bool true) h') :
    CallP Try.prog 15 [.agg #[.int .u8 kk, .int .u16 f], .agg #[xv0, xv1], zv] h K := by
  refine f15 ?_
  have e1 : iBox 54 h (.agg #[.int .u8 kk, .int .u16 f]) = some (pt h.length 0, h ++ [.arr 54 [.int .u8 kk, .int .u16 f]]) := rfl
  have e2 : iLoad true 2 (h ++ [.arr 54 [.int .u8 kk, .int .u16 f]]) (pt h.length 0) = some (.agg #[.int .u8 kk, .int .u16 f]) := by simp [iLoad, objCells, iPart]
  simp only [T15, e1, OH_some]
  have x1 : EX h (h ++ [.arr 54 [.int .u8 kk, .int .u16 f]]) := EX.append _ _
  generalize hA : h ++ [IObj.arr 54 [.int .u8 kk, .int .u16 f]] = h1 at *
  have e3 : iBox 83 h1 (.agg #[xv0, xv1]) = some (pt h1.length 0, h1 ++ [.arr 83 [xv0, xv1]]) := rfl
  simp only [e3, OH_some]
  have x2 : EX h1 (h1 ++ [.arr 83 [xv0, xv1]]) := EX.append _ _
  have l0 : iLoad false 1 (h1 ++ [.arr 83 [xv0, xv1]]) (pt h1.length 0) = some xv0 := load_last rfl
  have l1 : iLoad false 1 (h1 ++ [.arr 83 [xv0, xv1]]) (pt h1.length 1) = some xv1 := load_last rfl
  generalize hB : h1 ++ [IObj.arr 83 [xv0, xv1]] = h2 at *
  rw [EX.load x2 e2]
  simp only [OP_some]
  refine C30 hk0 hk1 ?_
  intro n ps hn1 hn6 ht
  have x4 : EX h2 (h2 ++ [.arr 98 (pcells ps)]) := EX.append _ _
  obtain ⟨hg, _, _, hl30, _⟩ := threadsOk_good ht
  have hps : PS (h2 ++ [.arr 98 (pcells ps)]) (sl 98 h2.length 0 ps.length) ps := PS.sl (by simp [objCells])
  have ex : EX h (h2 ++ [.arr 98 (pcells ps)]) := (x1.trans x2).trans x4
  have l0 := EX.load x4 l0
  have l1 := EX.load x4 l1
  have hx0 := hx0.mono ex
  have hx1 := hx1.mono ex
  have hz := hz.mono ex
  simp only [ext_tuple, pair0, pair1, OP_some]
  generalize sl 98 h2.length 0 ps.length = qv at hps ⊢
  generalize h2 ++ [IObj.arr 98 (pcells ps)] = hx at hps l0 l1 hx0 hx1 hz ⊢
  have d0 : ∀ i, iAdrArr 2 1 (pt i 0) (.int .i64 0) = some (pt i 0) := fun i => rfl
  have d1 : ∀ i, iAdrArr 2 1 (pt i 0) (.int .i64 1) = some (pt i 1) := fun i => rfl
  refine C31 (most := 8) hn1 hn6 (by omega) hz huz ?_
  intro a la ha8
  simp only [d0, d1, OP_some, l0, l1, true_and]
  refine C31 (most := 12) hn1 hn6 (by omega) hx0 hu0 ?_
  intro s1 ls1 hs1
  rw [bin_addS _ _ (by simp only [maxLen]; omega)]
  simp only [OP_some, l0, l1, true_and]
  refine C31 (most := 12) hn1 hn6 (by omega) hx1 hu1 ?_
  intro t1 lt1 ht1
  rw [bin_addS _ _ (by simp only [maxLen]; omega)]
  simp only [OP_some, l0, true_and]
  refine C32e hps hg (by omega) hx0 hu0 (letters_append la lt1) (by simp; omega) ?_
  intro t lt' htl hte
  have ls := letters_append la ls1
  have hsl : (a ++ s1).length ≤ 20 := by simp; omega
  have htl : t.length ≤ 20 := by simp at htl; omega
  have ha2 : eqv (freeP ps) 6 (a ++ t1) t := hte.symm
  generalize hs0 : a ++ s1 = s at ls hsl ⊢
  have ha1 : eqv (freeP ps) 6 (a ++ s1) s := by rw [hs0]; exact eqv.refl _ _ _
  have s6 := letters_le hn6 ls
  have t6 := letters_le hn6 lt'
  refine C47b hps hn6 ht ls lt' (by omega) (by omega) ?_
  intro m y z hm
  simp only [siV, ext_tuple, pair0, pair1, OP_some]
  refine C47b hps hn6 ht lt' ls (by omega) (by omega) ?_
  intro m2 y2 z2 hm2
  have em2 := (Lst_iff hm.lm hm2.lm).1 (hm.swap.unique t6 s6 hm2).1
  obtain ⟨lm, ly, lz⟩ := hm.lettersN ls lt'
  obtain ⟨len1, len2⟩ := hm.len (Nat.le_refl 6) s6 t6
  have lm6 := Lst_letters (ps := ps) hm.lm
  have ly6 := Lst_letters (ps := ps) hm.la
  have lz6 := Lst_letters (ps := ps) hm.lb
  have em := Lst_eqv (ps := ps) hm.lm
  have eY := Lst_eqv (ps := ps) hm.la
  have eZ := Lst_eqv (ps := ps) hm.lb
  obtain ⟨r, lr, hr⟩ := meet_greatest s6 t6 hm (letters_le hn6 la) (letters_le hn6 ls1) (letters_le hn6 lt1) ha1 ha2
  have hrl := eqv_length (freeP_symm ps) (letters_append (letters_le hn6 la) lr) hm.lm hr
  simp only [List.length_append] at hrl
  simp only [siV, ext_tuple, pair0, pair1, OP_some, bin_neq, decide_true, Bool.not_true, q15z10, GdP_ff, q15z12, iPick_f, q15z14, bin_neqS, em2, q15z16, q15z18, lenS_S, bin_lss, q15z20]
  rw [← em2]
  have hlt : decide (((Lst ps m).length : Int) < (a.length : Int)) = false := decide_eq_false (by omega)
  simp only [hlt, q15z20, iPick_f, OP_some, q15z22, GdP_ff]
  refine C20 ?_
  simp only [un_not, OP_some, Bool.not_true, q15z24, iPick_f, IfP_false]
  refine C51b hps hn6 ht (Lst_lettersN hn6 lm) ls (by omega) (by omega) hm.la ((em.append (eqv.refl _ _ y)).trans hm.ea) ?_
  simp only [siV, ext_tuple, pair0, pair1, OP_some]
  refine C51b hps hn6 ht (Lst_lettersN hn6 lm) lt' (by omega) (by omega) hm.lb ((em.append (eqv.refl _ _ z)).trans hm.eb) ?_
  simp only [siV, ext_tuple, pair0, pair1, OP_some]
  refine C51b hps hn6 ht la (Lst_lettersN hn6 lm) (by omega) (by omega) lr (hr.trans em.symm) ?_
  simp only [siV, ext_tuple, pair0, pair1, OP_some, bin_neq, decide_true, Bool.not_true, q15z32, GdP_ff, q15z34, iPick_f, q15z36, q15z38, IfP_false]
  refine C47b hps hn6 ht (Lst_lettersN hn6 ly) (Lst_lettersN hn6 lz) (by omega) (by omega) ?_
  intro m3 y3 z3 hm3
  have e3 : Lst ps m3 = [] := by
    have h3 : MeetR ps 6 (Lst ps y) (Lst ps z) [] (Lst ps y) (Lst ps z) := ⟨MeetI.start ly6.1 lz6.1, hm.ap.congr hm.la hm.lb ly6.1 lz6.1 eY eZ⟩
    exact (Lst_iff hm3.lm h3.lm).1 (hm3.unique ly6.1 lz6.1 h3).1
  rw [e3]
  simp only [siV, ext_tuple, pair0, pair1, OP_some]
  refine C48b hps hn6 ht ls lt' (by omega) (by omega) ?_
  intro m4 y4 z4 hm4
  have go : ∀ (j : List UInt8) (e : Int), joinV ps m4 y4 z4 = siV j e → (e = 0 ∧ freeAll (freeP ps) y4 z4 = true ∧ j = Lst ps (m4 ++ y4 ++ z4) ∨ e = 5) →
      OP (iExt 0 (joinV ps m4 y4 z4)) fun x146 => OP (iExt 1 (joinV ps m4 y4 z4)) fun x147 => CallP Try.prog 48 [I n, qv, S t, S s] hx fun x153 h_3 =>
        OP (iExt 0 x153) fun x154 => OP (iExt 1 x153) fun x155 => OP (iBin .neq (S []) (.string ⟨#[]⟩)) fun x157 =>
        p15z46 Try.prog K (I n) qv (S s) (S t) (S (Lst ps m)) (I 0) x146 x147 x154 x155 x157 h_3 := by
    intro j e he hj
    rw [he]
    simp only [siV, ext_tuple, pair0, pair1, OP_some]
    refine C48b hps hn6 ht lt' ls (by omega) (by omega) ?_
    intro m5 y5 z5 hm5
    obtain ⟨u1, u2, u3⟩ := hm4.swap.unique t6 s6 hm5
    have ej : joinV ps m5 y5 z5 = joinV ps m4 y4 z4 := by
      unfold joinV
      rw [← freeAll_congr hm4.lb hm4.la hm5.la hm5.lb u2 u3, freeAll_comm (a := z4)]
      split
      · rename_i hf
        have : Lst ps (m5 ++ y5 ++ z5) = Lst ps (m4 ++ y4 ++ z4) := by
          refine (Lst_iff (letters_append (letters_append hm5.lm hm5.la) hm5.lb) (letters_append (letters_append hm4.lm hm4.la) hm4.lb)).1 ?_
          have h1 : eqv (freeP ps) 6 (m5 ++ y5 ++ z5) (m4 ++ z4 ++ y4) := ((u1.append u2).append u3).symm
          refine h1.trans ?_
          rw [List.append_assoc, List.append_assoc]
          exact (eqv.refl _ _ m4).append (freeAll_swap ht hm4.la hf).symm
        rw [this]
      · rfl
    rw [ej, he]
    rw [S_nil]
    simp only [siV, ext_tuple, pair0, pair1, OP_some, bin_neqS, decide_true, Bool.not_true, q15z46, GdP_ff, bin_neq, q15z48, iPick_f, q15z50, q15z52, q15z54, q15z56, q15z58]
    rcases hj with ⟨rfl, hf, rfl⟩ | rfl
    · simp only [decide_true, Bool.not_true, q15z60, GdP_ft, q15z62, GdP_ff, iPick_f, OP_some, GdP_undef, q15z64, IfP_false, bin_neq]
      have ljs := letters_append (letters_append hm4.lm hm4.la) hm4.lb
      have lj6 := Lst_letters (ps := ps) ljs
      have eJ := Lst_eqv (ps := ps) ljs
      obtain ⟨len3, len4⟩ := hm4.len (Nat.le_refl 6) s6 t6
      obtain ⟨lm4, ly4, lz4⟩ := hm4.lettersN ls lt'
      have ljn : letters n (Lst ps (m4 ++ y4 ++ z4)) := Lst_lettersN hn6 (letters_append (letters_append lm4 ly4) lz4)
      have hjl : (Lst ps (m4 ++ y4 ++ z4)).length = m4.length + y4.length + z4.length := by rw [lj6.2, List.length_append, List.length_append]
      have b1 : eqv (freeP ps) 6 (s ++ z4) (Lst ps (m4 ++ y4 ++ z4)) := (hm4.ea.symm.append (eqv.refl _ _ z4)).trans eJ.symm
      have b2 : eqv (freeP ps) 6 (t ++ y4) (Lst ps (m4 ++ y4 ++ z4)) := by
        refine (hm4.eb.symm.append (eqv.refl _ _ y4)).trans ?_
        refine eqv.trans ?_ eJ.symm
        rw [List.append_assoc, List.append_assoc]
        exact (eqv.refl _ _ m4).append (freeAll_swap ht hm4.la hf).symm
      generalize Lst ps (m4 ++ y4 ++ z4) = j at *
      refine C51b hps hn6 ht ls ljn (by omega) (by omega) hm4.lb b1 ?_
      simp only [siV, ext_tuple, pair0, pair1, OP_some]
      refine C51b hps hn6 ht lt' ljn (by omega) (by omega) hm4.la b2 ?_
      simp only [siV, ext_tuple, pair0, pair1, OP_some]
      refine C47b hps hn6 ht ls ljn (by omega) (by omega) ?_
      intro m6 y6 z6 hm6
      have e6 : Lst ps m6 = Lst ps s := by
        have h6 : MeetR ps 6 s j s [] z4 := ⟨⟨s6, fun c hc => by simp at hc, hm4.lb, by rw [List.append_nil]; exact eqv.refl _ _ _, b1⟩, fun c hc ⟨i, hi⟩ _ => by simp [firstAt] at hi⟩
        exact (Lst_iff hm6.lm s6).1 (hm6.unique s6 (letters_le hn6 ljn) h6).1
      rw [e6]
      simp only [siV, ext_tuple, pair0, pair1, OP_some]
      refine C41b hps hn6 ht ls (by omega) ?_
      have hml := hm.unique s6 t6 hm4
      have hmm := eqv_length (freeP_symm ps) hm.lm hm4.lm hml.1
      have i1 : IntKind.wrap .i64 ((s.length : Int) + (t.length : Int)) = ((s.length + t.length : Nat) : Int) := by rw [wrap64 (by omega) (by omega)]; omega
      have i2 : IntKind.wrap .i64 (((s.length + t.length : Nat) : Int) - ((Lst ps m).length : Int)) = (j.length : Int) := by rw [wrap64 (by omega) (by omega)]; omega
      simp only [siV, ext_tuple, pair0, pair1, OP_some, bin_eql, decide_true, q15z75, GdP_tt, q15z77, iPick_t, q15z79, q15z81, q15z83, q15z85, q15z87, bin_eqlS, q15z89, q15z91, lenS_S, bin_add, bin_sub, i1, i2, q15z93]
      exact hk _
    · simp only [show decide ((5 : Int) = 0) = false from rfl, Bool.not_false, q15z60, GdP_tt, bin_neq, OP_some, decide_true, Bool.not_true, q15z62, GdP_ff, iPick_t, q15z64, iPick_f, IfP_false, IfP_true]
      exact hk _
  cases hf : freeAll (freeP ps) y4 z4 with
  | true => exact go (Lst ps (m4 ++ y4 ++ z4)) 0 (by unfold joinV; rw [hf]; rfl) (.inl ⟨rfl, hf, rfl⟩)
  | false => exact go [] 5 (by unfold joinV; rw [hf]; rfl) (.inr rfl)

end Go.Proofs.Ytjdlcokhlphmhaa

/-
  The law of the rest: a seam appended to another seam, and shuffled.
-/
namespace Go.Proofs.Ytjdlcokhlphmhaa
open Go.Sim

/-- Numbers as they come in: a slice, or nil. -/
def ISl (h : Heap) (v : Value) (ns : List Int) : Prop := (v = .slice none 0 0 ∧ ns = []) ∨ ∃ e i, v = sl e i 0 ns.length ∧ (ns = [] ∨ objCells h i = some (ns.map (Value.int .u8)))

theorem ISl.mono {h h' : Heap} {v : Value} {ns : List Int} (k : EX h h') (p : ISl h v ns) : ISl h' v ns :=
  p.imp id fun ⟨e, i, a, b⟩ => ⟨e, i, a, b.imp id fun b => k.cells b⟩

theorem ISl.ns {h : Heap} {v : Value} {ns : List Int} (p : ISl h v ns) (hl : ns.length ≤ maxLen) : NS h v .u8 ns := by
  rcases p with ⟨rfl, rfl⟩ | ⟨e, i, rfl, hc⟩
  · exact NS.nil _ _
  · exact NS.sl hc hl

theorem ISl.cells {h : Heap} {v : Value} {ns : List Int} (p : ISl h v ns) : sliceCells h 1 v = some (ns.map (Value.int .u8)) ∧ lenOfSl v = some ns.length := by
  rcases p with ⟨rfl, rfl⟩ | ⟨e, i, rfl, hc⟩
  · exact ⟨rfl, rfl⟩
  · refine ⟨?_, rfl⟩
    unfold sliceCells sl
    simp only
    by_cases hz : ns.length = 0
    · rw [if_pos hz]
      have : ns = [] := List.length_eq_zero_iff.1 hz
      subst this
      rfl
    · have hc := hc.resolve_left (by rintro rfl; simp at hz)
      rw [if_neg hz, hc]
      have ht : ((ns.map (Value.int .u8)).drop 0).take (ns.length * 1) = ns.map (Value.int .u8) := by
        rw [List.drop_zero, Nat.mul_one]; exact List.take_of_length_le (by simp)
      simp only [Option.bind_some]
      rw [if_pos (by simp), ht]

theorem appI {h0 hx : Heap} {v x : Value} {xs ns : List Int} {K : Value → Heap → Prop} (o : OwnS h0.length hx 5 v (xs.map (Value.int .u8))) (hv : v ≠ .slice none 0 0) (hex : EX h0 hx) (hIs : ISl hx x ns) (hb : xs.length + ns.length ≤ 4194304)
    (hk : ∀ v' hx', v' ≠ .slice none 0 0 → EX h0 hx' → OwnS h0.length hx' 5 v' ((xs ++ ns).map (Value.int .u8)) → K v' hx') : OH (iApp 5 1 1 hx v x) K := by
  obtain ⟨e1, e2⟩ := hIs.cells
  rcases o with ⟨rfl, _⟩ | ⟨i, hi, rfl, hg⟩
  · exact absurd rfl hv
  · have hlt := (List.getElem?_eq_some_iff.1 hg).1
    by_cases hz : ns.length = 0
    · have : ns = [] := List.length_eq_zero_iff.1 hz
      subst this
      refine OH_of (v := sl 5 i 0 (xs.map (Value.int .u8)).length) (h := hx) ?_ (hk _ _ hv hex (.inr ⟨i, hi, by simp, by simpa using hg⟩))
      simp only [iApp, e1, e2]
      simp only [sl, hg]
      rw [if_pos ⟨trivial, trivial, by simp, by simp at hb ⊢; omega, by simp [maxLen] at hb ⊢; omega⟩]
      simp
    · refine OH_of (v := sl 5 hx.length 0 ((xs ++ ns).map (Value.int .u8)).length) (h := hx.set i .dead ++ [.arr 5 ((xs ++ ns).map (Value.int .u8))]) ?_
        (hk _ _ (by unfold sl; intro h; cases h) ((hex.set hi _).push _) (.inr ⟨hx.length, hex.1, rfl, by rw [List.getElem?_append_right (by simp)]; simp⟩))
      simp only [iApp, e1, e2]
      simp only [sl, hg]
      rw [if_pos ⟨trivial, trivial, by simp, by simp at hb ⊢; omega, by simp [maxLen] at hb ⊢; omega⟩, if_neg hz]
      simp

theorem OwnS.ns {b : Nat} {hx : Heap} {e : TypeId} {v : Value} {xs : List Int} (o : OwnS b hx e v (xs.map (Value.int .u8))) (hl : xs.length ≤ maxLen) : NS hx v .u8 xs := by
  rcases o with ⟨rfl, h⟩ | ⟨i, _, rfl, hg⟩
  · have : xs = [] := by simpa using h
    subst this
    exact NS.nil _ _
  · have := NS.sl (h := hx) (e := e) (i := i) (k := .u8) (ns := xs) (.inr (by simp [objCells, hg])) hl
    simpa using this

theorem C13 {kk f : Int} {xv yv : Value} {ns ms : List Int} {h : Heap} {K : Value → Heap → Prop} (hk0 : 0 ≤ kk) (hk1 : kk < 256) (hx : ISl h xv ns) (hux : U8 ns) (hy : ISl h yv ms) (huy : U8 ms) (hlen : ns.length + ms.length ≤ 2097152)
    (hk : ∀ h', K (.bool true) h') : CallP Try.prog 13 [.agg #[.int .u8 kk, .int .u16 f], xv, yv] h K := by
  refine f13 ?_
  have e1 : iBox 54 h (.agg #[.int .u8 kk, .int .u16 f]) = some (pt h.length 0, h ++ [.arr 54 [.int .u8 kk, .int .u16 f]]) := rfl
  have e2 : iLoad true 2 (h ++ [.arr 54 [.int .u8 kk, .int .u16 f]]) (pt h.length 0) = some (.agg #[.int .u8 kk, .int .u16 f]) := by simp [iLoad, objCells, iPart]
  simp only [T13, e1, OH_some, e2, OP_some]
  have x1 : EX h (h ++ [.arr 54 [.int .u8 kk, .int .u16 f]]) := EX.append _ _
  have hx := hx.mono x1
  have hy := hy.mono x1
  generalize h ++ [IObj.arr 54 [.int .u8 kk, .int .u16 f]] = hA at hx hy ⊢
  refine C30 hk0 hk1 ?_
  intro n ps hn1 hn6 ht
  have x2 : EX hA (hA ++ [.arr 98 (pcells ps)]) := EX.append _ _
  have hx := hx.mono x2
  have hy := hy.mono x2
  obtain ⟨hg, _, _, hl30, _⟩ := threadsOk_good ht
  have hps : PS (hA ++ [.arr 98 (pcells ps)]) (sl 98 hA.length 0 ps.length) ps := PS.sl (by simp [objCells])
  simp only [ext_tuple, pair0, pair1, OP_some]
  generalize sl 98 hA.length 0 ps.length = qv at hps ⊢
  generalize hA ++ [IObj.arr 98 (pcells ps)] = hB at hx hy hps ⊢
  refine C31 (most := 20) hn1 hn6 (by omega) (hx.ns (by unfold maxLen; omega)) hux ?_
  intro s ls hs
  refine C31 (most := 20) hn1 hn6 (by omega) (hy.ns (by unfold maxLen; omega)) huy ?_
  intro r lr hr
  rw [bin_addS _ _ (by simp only [maxLen]; omega)]
  have mk : iMkSl 5 0 [.int .u8 0] hB [] = some (sl 5 hB.length 0 0, hB ++ [.arr 5 []]) := rfl
  simp only [OP_some, mk, OH_some]
  refine appI (h0 := hB) (xs := []) (.inr ⟨hB.length, Nat.le_refl _, rfl, by simp⟩) (by unfold sl; intro h; cases h) (EX.append _ _) (hx.mono (EX.append _ _)) (by simp; omega) ?_
  intro v1 h1 hv1 hex1 ho1
  refine appI (h0 := hB) (xs := [] ++ ns) ho1 hv1 hex1 (hy.mono hex1) (by simp; omega) ?_
  intro v2 h2 hv2 hex2 ho2
  have hps2 := hps.mono hex2
  refine C32e hps2 hg (by omega) (ho2.ns (by simp only [List.nil_append, List.length_append]; unfold maxLen; omega)) (by
    intro z hz
    rcases List.mem_append.1 hz with hz | hz
    · exact hux z (by simpa using hz)
    · exact huy z hz) (letters_append ls lr) (by simp; omega) ?_
  intro t lt' htl hte
  have htl : t.length = s.length + r.length := by simpa using htl
  have r6 := letters_le hn6 lr
  have s6 := letters_le hn6 ls
  have t6 := letters_le hn6 lt'
  have eR := Lst_eqv (ps := ps) r6
  have lR := Lst_letters (ps := ps) r6
  have b1 : eqv (freeP ps) 6 (s ++ r) t := hte.symm
  refine C51b hps2 hn6 ht ls lt' (by omega) (by omega) r6 b1 ?_
  simp only [siV, ext_tuple, pair0, pair1, OP_some]
  refine C41b hps2 hn6 ht lr (by omega) ?_
  simp only [siV, ext_tuple, pair0, pair1, OP_some, bin_neq, decide_true, Bool.not_true, q13z10, GdP_ff, q13z12, iPick_f, q13z14, bin_neqS, q13z16, q13z18]
  refine C20 ?_
  simp only [un_not, OP_some, Bool.not_true, q13z20, iPick_f, IfP_false]
  rw [bin_addS _ _ (by simp only [maxLen]; omega)]
  simp only [OP_some]
  have lsR : letters n (s ++ Lst ps r) := letters_append ls (Lst_lettersN hn6 lr)
  have hw : whyE n ps [s ++ Lst ps r, t] 40 = 0 := why2 hn6 ht lsR lt' (by simp; omega) (by omega)
  refine C18 hps2 (by omega) (by simp; omega) (by omega) ?_
  rw [equalV_ok hw]
  have is1 : decide (Lst ps (s ++ Lst ps r) = Lst ps t) = true := by
    rw [decide_eq_true_eq]
    exact (Lst_iff (letters_le hn6 lsR) t6).1 (((eqv.refl _ _ s).append eR).trans b1)
  rw [is1]
  simp only [ext_tuple, pair0, pair1, OP_some]
  refine C51 hps2 (by omega) (by omega) (by omega) ?_
  have key : restE n ps t s = if r = [] then siV [] 0 else siV [] 5 := by
    by_cases hr0 : r = []
    · subst hr0
      rw [if_pos rfl]
      rw [restE_begins hn6 ht lt' ls (by omega) (by omega) (r := []) (fun c hc => by simp at hc) (by rw [List.append_nil]; rw [List.append_nil] at b1; exact b1.symm)]
      rfl
    · rw [if_neg hr0]
      refine restE_not hn6 ht lt' ls (by omega) (by omega) ?_
      intro q lq hq
      have := eqv_length (freeP_symm ps) (letters_append t6 lq) s6 hq
      simp only [List.length_append] at this
      exact hr0 (List.length_eq_zero_iff.1 (by omega))
  rw [key]
  by_cases hr0 : r = []
  · rw [if_pos hr0]
    simp only [siV, ext_tuple, pair0, pair1, OP_some, q13z26, GdP_tt, bin_eql, decide_true, q13z28, iPick_t, q13z30, S_nil, bin_eqlS, decide_eq_true hr0, eqb_bool, Bool.false_eq_true, if_false, beq_self_eq_true, q13z32, q13z34, q13z36, GdP_tf, q13z38, q13z40]
    exact hk _
  · rw [if_neg hr0]
    simp only [siV, ext_tuple, pair0, pair1, OP_some, q13z26, GdP_tt, bin_eql, decide_true, show decide ((5 : Int) = 0) = false from rfl, q13z28, iPick_t, q13z30, S_nil, bin_eqlS, decide_eq_false hr0, eqb_bool, Bool.false_eq_true, if_false, beq_self_eq_true, q13z32, q13z34, q13z36, GdP_ff, q13z38, iPick_f, q13z40]
    exact hk _

end Go.Proofs.Ytjdlcokhlphmhaa
