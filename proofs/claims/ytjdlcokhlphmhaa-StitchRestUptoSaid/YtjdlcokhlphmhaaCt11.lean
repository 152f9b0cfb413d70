/-
  What two seams have in common, and what both begin: both sides.
-/
import Derived.Test.YtjdlcokhlphmhaaCt10
import Derived.Test.YtjdlcokhlphmhaaSp3
import Derived.Test.YtjdlcokhlphmhaaSh3
namespace Go.Proofs.Ytjdlcokhlphmhaa
open Go.Sim

theorem divG_eq (fr : UInt8 → UInt8 → Bool) : ∀ s u : List UInt8, divF fr s u = divG fr s u
  | [], u => rfl
  | c :: cs, u => by
    simp only [divF, divG]
    cases firstAt fr c u 0 with
    | none => rfl
    | some i => exact divG_eq fr cs _

theorem firstAt_cm {ps : List (Int × Int)} {s : List UInt8} {b : Nat} (hs : letters 6 s) (hb : b < 6) : firstAt (frM (cmOf ps)) (lt b) s 0 = firstAt (freeP ps) (lt b) s 0 :=
  firstAt_congr fun c hc => by obtain ⟨a, ha, rfl⟩ := hs c hc; exact frM_cmOf ps (by omega) (by omega)

/-- A common beginning of two seams, and what follows it in each. -/
structure MeetI (ps : List (Int × Int)) (n : Nat) (s u m a b : List UInt8) : Prop where
  lm : letters n m
  la : letters n a
  lb : letters n b
  ea : eqv (freeP ps) 6 (m ++ a) s
  eb : eqv (freeP ps) 6 (m ++ b) u

theorem MeetI.start {ps : List (Int × Int)} {n : Nat} {s u : List UInt8} (hs : letters n s) (hu : letters n u) : MeetI ps n s u [] s u :=
  ⟨fun c hc => by simp at hc, hs, hu, eqv.refl _ _ _, eqv.refl _ _ _⟩

theorem MeetI.step {ps : List (Int × Int)} {n : Nat} {s u m a b : List UInt8} (h : MeetI ps n s u m a b) {c i j : Nat} (hc : c < n) (hi : firstAt (freeP ps) (lt c) a 0 = some i) (hj : firstAt (freeP ps) (lt c) b 0 = some j) :
    MeetI ps n s u (m ++ [lt c]) (without a i) (without b j) := by
  refine ⟨letters_append h.lm fun d hd => ⟨c, hc, by simpa using hd⟩, letters_without h.la i, letters_without h.lb j, ?_, ?_⟩
  · rw [List.append_assoc]
    exact ((eqv.refl _ _ m).append (eqv_front (freeP_symm ps) hi)).trans h.ea
  · rw [List.append_assoc]
    exact ((eqv.refl _ _ m).append (eqv_front (freeP_symm ps) hj)).trans h.eb

/-- The longest one. -/
structure MeetR (ps : List (Int × Int)) (n : Nat) (s u m a b : List UInt8) : Prop extends MeetI ps n s u m a b where
  ap : apartF (freeP ps) 6 a b

theorem MeetI.len {ps : List (Int × Int)} {n : Nat} {s u m a b : List UInt8} (h : MeetI ps n s u m a b) (hn : n ≤ 6) (hs : letters n s) (hu : letters n u) : m.length + a.length = s.length ∧ m.length + b.length = u.length := by
  have h1 := eqv_length (freeP_symm ps) (letters_append (letters_le hn h.lm) (letters_le hn h.la)) (letters_le hn hs) h.ea
  have h2 := eqv_length (freeP_symm ps) (letters_append (letters_le hn h.lm) (letters_le hn h.lb)) (letters_le hn hu) h.eb
  simp at h1 h2
  omega

theorem MeetR.six {ps : List (Int × Int)} {n : Nat} {s u m a b : List UInt8} (h : MeetR ps n s u m a b) (hn : n ≤ 6) : MeetR ps 6 s u m a b :=
  ⟨⟨letters_le hn h.lm, letters_le hn h.la, letters_le hn h.lb, h.ea, h.eb⟩, h.ap⟩

theorem first_mem {fr : UInt8 → UInt8 → Bool} {x : UInt8} {s : List UInt8} (h : first fr x s) : x ∈ s := by
  obtain ⟨i, hi⟩ := h
  obtain ⟨u, v, e, _, _⟩ := firstAt_split hi
  rw [e]; simp

theorem C80k {t : Value} {n : Nat} {ps : List (Int × Int)} {s0 u0 : List UInt8} {h : Heap} {K : Value → Heap → Prop} (ht : TH h t n (cmOf ps)) (hn6 : n ≤ 6) (ls : letters n s0) (lu : letters n u0) (hls : s0.length ≤ 1000) (hlu : u0.length ≤ 1000)
    (hk : ∀ m a b hx, EX h hx → MeetR ps n s0 u0 m a b → K (.tuple #[S m, S a, S b]) hx) : CallP Try.prog 80 [t, S s0, S u0] h K := by
  refine f80 ?_
  refine loopL (σ := List UInt8 × List UInt8 × List UInt8 × Value × Bool × Heap) (fun p => [S p.1, S p.2.1, p.2.2.2.1, B p.2.2.2.2.1]) (fun p => p.2.2.2.2.2)
    (fun p => MeetI ps n s0 u0 p.2.2.1 p.1 p.2.1 ∧ EX h p.2.2.2.2.2 ∧ OwnS h.length p.2.2.2.2.2 5 p.2.2.2.1 (p.2.2.1.map cv) ∧ (p.2.2.2.2.1 = false → apartF (freeP ps) 6 p.1 p.2.1)) (fun p => 2 * p.1.length + (if p.2.2.2.2.1 then 1 else 0))
    (s0, u0, [], .slice none 0 0, true, h) rfl rfl ⟨MeetI.start ls lu, EX.refl h, .inl ⟨rfl, rfl⟩, by simp⟩ ?_
  rintro ⟨s, u, out, v, mo, hx⟩ ⟨hI, hex, hown, hap⟩ L hL
  simp only at hI hex hown hap hL ⊢
  rw [q80z6]
  cases mo with
  | false =>
    simp only [IfP_false, q80z27]
    rw [b2s hown]
    simp only [OP_some]
    exact hk _ _ _ _ hex ⟨hI, hap rfl⟩
  | true =>
    have hthx := ht.mono hex
    obtain ⟨ti, rfl, hc⟩ := hthx
    have hld : iLoad false 1 hx (pt ti 0) = some (I n) := by simp [iLoad, hc, iPart, tcells]
    simp only [IfP_true, nilck_pt, OP_some, fadr_pt, Nat.zero_add, hld]
    refine loopL (σ := List UInt8 × List UInt8 × List UInt8 × Value × Bool × Nat × Heap) (fun p => [S p.1, S p.2.1, p.2.2.2.1, B p.2.2.2.2.1, I p.2.2.2.2.2.1]) (fun p => p.2.2.2.2.2.2)
      (fun p => MeetI ps n s0 u0 p.2.2.1 p.1 p.2.1 ∧ EX h p.2.2.2.2.2.2 ∧ OwnS h.length p.2.2.2.2.2.2 5 p.2.2.2.1 (p.2.2.1.map cv) ∧ p.2.2.2.2.2.1 ≤ n ∧ (p.2.2.2.2.1 = true → p.1.length < s.length) ∧
        (p.2.2.2.2.1 = false → p.1.length = s.length ∧ ∀ c, c < p.2.2.2.2.2.1 → first (freeP ps) (lt c) p.1 → first (freeP ps) (lt c) p.2.1 → False)) (fun p => n - p.2.2.2.2.2.1)
      (s, u, out, v, false, 0, hx) rfl rfl ⟨hI, hex, hown, by simp, by simp, by simp⟩ ?_
    rintro ⟨s, u, out, v, mo, b, hx⟩ ⟨hI, hex, hown, hb, hm1, hm2⟩ L2 hL2
    simp only at hI hex hown hb hm1 hm2 hL2 ⊢
    rw [q80z13]
    obtain ⟨len1, len2⟩ := hI.len hn6 ls lu
    have hthx := ht.mono hex
    simp only [bin_lss, OP_some, IfP_dec]
    refine ⟨fun hlt => ?_, fun hge => ?_⟩
    · have hlt' : b < n := by omega
      simp only [conv_int, OP_some, bin_add]
      rw [wrapU8 (n := (b : Int)) (by omega) (by omega), wrapU8 (by omega) (by omega)]
      have ecv : (.int .u8 (97 + (b : Int)) : Value) = cv (lt b) := by rw [cv_lt (by omega)]; congr 1
      rw [ecv]
      have s6 := letters_le hn6 hI.la
      have u6 := letters_le hn6 hI.lb
      refine C84 hthx (by omega) s6 (by omega) ?_
      refine C84 hthx (by omega) u6 (by omega) ?_
      rw [firstAt_cm s6 (by omega), firstAt_cm u6 (by omega)]
      have same : (first (freeP ps) (lt b) s → first (freeP ps) (lt b) u → False) → p80z26 Try.prog K (pt ti 0) (S s) (S u) v (B mo) (I n) (I b) L L2 hx := by
        intro hno
        rw [q80z26]
        simp only [bin_add, OP_some, inc b (by omega), true_and]
        refine hL2 (s, u, out, v, mo, b + 1, hx) ⟨hI, hex, hown, by show b + 1 ≤ n; omega, hm1, fun h => ⟨(hm2 h).1, fun c hc => ?_⟩⟩ (by show n - (b + 1) < n - b; omega)
        by_cases hcb : c = b
        · subst hcb; exact hno
        · exact (hm2 h).2 c (by have : c < b + 1 := hc; omega)
      simp only [bin_geq, OP_some]
      cases h1 : firstAt (freeP ps) (lt b) s 0 with
      | none =>
        rw [q80z23, decide_eq_false (show ¬ (0 : Int) ≤ optI none by simp [optI])]
        simp only [GdP_ft, q80z25, iPick_f, OP_some, IfP_false]
        exact same fun ⟨i, hi⟩ _ => by rw [h1] at hi; cases hi
      | some i =>
        rw [q80z23, decide_eq_true (show (0 : Int) ≤ optI (some i) by simp [optI])]
        simp only [GdP_tt, bin_geq, OP_some]
        cases h2 : firstAt (freeP ps) (lt b) u 0 with
        | none =>
          rw [q80z25, decide_eq_false (show ¬ (0 : Int) ≤ optI none by simp [optI])]
          simp only [iPick_t, OP_some, IfP_false]
          exact same fun _ ⟨i, hi⟩ => by rw [h2] at hi; cases hi
        | some j =>
          rw [q80z25, decide_eq_true (show (0 : Int) ≤ optI (some j) by simp [optI])]
          simp only [iPick_t, OP_some, IfP_true, optI]
          have hi := (firstAt_lt h1).1
          have hj := (firstAt_lt h2).1
          have w1 := without_length hi
          have w2 := without_length hj
          refine C85 hi (by omega) (C85 hj (by omega) ?_)
          refine app1 hown hex (by simp; omega) (by simp [maxLen]; omega) rfl rfl ?_
          intro v' hx' hex' hown'
          rw [q80z26]
          simp only [bin_add, OP_some, inc b (by omega), true_and]
          refine hL2 (without s i, without u j, out ++ [lt b], v', true, b + 1, hx') ⟨hI.step hlt' h1 h2, hex', by simpa using hown', by show b + 1 ≤ n; omega, fun _ => ?_, fun h => by cases h⟩ (by show n - (b + 1) < n - b; omega)
          show (without s i).length < _
          cases mo with
          | true => have := hm1 rfl; omega
          | false => have := (hm2 rfl).1; omega
    · have : b = n := by omega
      subst this
      simp only [true_and]
      refine hL (s, u, out, v, mo, hx) ⟨hI, hex, hown, fun h c hc f1 f2 => ?_⟩ ?_
      · obtain ⟨d, hd, e⟩ := hI.la _ (first_mem f1)
        have : c = d := lt_inj (by omega) (by omega) e
        exact (hm2 h).2 c (by omega) f1 f2
      · show 2 * s.length + (if mo then 1 else 0) < _
        cases mo with
        | true => have := hm1 rfl; simp; omega
        | false => have := (hm2 rfl).1; simp; omega

theorem C80 {t : Value} {n : Nat} {ps : List (Int × Int)} {s0 u0 : List UInt8} {h : Heap} {K : Value → Heap → Prop} (ht : TH h t n (cmOf ps)) (hn6 : n ≤ 6) (ls : letters n s0) (lu : letters n u0) (hls : s0.length ≤ 1000) (hlu : u0.length ≤ 1000)
    (hk : ∀ m a b, MeetR ps n s0 u0 m a b → K (.tuple #[S m, S a, S b]) h) : CallP Try.prog 80 [t, S s0, S u0] h K :=
  callP_gcE (C80k ht hn6 ls lu hls hlu fun m a b hx hex hm => ⟨hex, Ren.tuple (l := [fun _ => S m, fun _ => S a, fun _ => S b]) (.cons (Ren.scal rfl) (.cons (Ren.scal rfl) (.cons (Ren.scal rfl) .nil))), hk _ _ _ hm⟩)

theorem C49 {ps : List (Int × Int)} {pv : Value} {s0 u0 : List UInt8} {h : Heap} {K : Value → Heap → Prop} (hp : PS h pv ps) (hg : good ps) (hl : ps.length ≤ 100) (ls : letters 6 s0) (lu : letters 6 u0) (hls : s0.length ≤ 1000) (hlu : u0.length ≤ 1000)
    (hk : ∀ m a b, MeetR ps 6 s0 u0 m a b → K (S (Lst ps m)) h) : CallP Try.prog 49 [pv, S s0, S u0] h K := by
  refine f49 ?_
  refine loopL (σ := List UInt8 × List UInt8 × List UInt8) (fun p => [S p.1, S p.2.1, S p.2.2]) (fun _ => h) (fun p => MeetI ps 6 s0 u0 p.2.2 p.1 p.2.1) (fun p => p.1.length)
    (s0, u0, []) rfl rfl (MeetI.start ls lu) ?_
  rintro ⟨s, u, out⟩ hI L hL
  simp only at hI hL ⊢
  rw [q49z4]
  refine loopL (σ := List UInt8 × List UInt8 × List UInt8 × Bool × Nat) (fun p => [S p.1, S p.2.1, S p.2.2.1, B p.2.2.2.1, cv (lt p.2.2.2.2)]) (fun _ => h)
    (fun p => MeetI ps 6 s0 u0 p.2.2.1 p.1 p.2.1 ∧ p.2.2.2.2 ≤ 6 ∧ (p.2.2.2.1 = true → p.1.length < s.length) ∧
      (p.2.2.2.1 = false → p.1.length = s.length ∧ ∀ c, c < p.2.2.2.2 → first (freeP ps) (lt c) p.1 → first (freeP ps) (lt c) p.2.1 → False)) (fun p => 6 - p.2.2.2.2)
    (s, u, out, false, 0) rfl rfl ⟨hI, by simp, by simp, by simp⟩ ?_
  rintro ⟨s', u', out', fo, b⟩ ⟨hI, hb, hm1, hm2⟩ L2 hL2
  simp only at hI hb hm1 hm2 hL2 ⊢
  rw [q49z10]
  obtain ⟨len1, len2⟩ := hI.len (Nat.le_refl 6) ls lu
  have done : (fo = false → apartF (freeP ps) 6 s' u') → p49z26 Try.prog K pv (S s') (S u') (S out') (B fo) L h := by
    intro hap
    rw [q49z26]
    cases fo with
    | false =>
      simp only [un_not, OP_some, Bool.not_false, IfP_true]
      exact C21 hp hg hl (by omega) hI.lm (hk _ _ _ ⟨hI, hap rfl⟩)
    | true =>
      simp only [un_not, OP_some, Bool.not_true, IfP_false, true_and]
      exact hL (s', u', out') hI (hm1 rfl)
  simp only [bin_leq, OP_some, lt_toNat (show b < 100 by omega)]
  by_cases hlt : b < 6
  · rw [decide_eq_true (show ((97 + b : Nat) : Int) ≤ 102 by omega)]
    simp only [q49z14, GdP_tt, un_not, OP_some, q49z16, iPick_t]
    cases fo with
    | true =>
      simp only [Bool.not_true, IfP_false]
      exact done (fun h => by cases h)
    | false =>
      simp only [Bool.not_false, IfP_true]
      refine C59 hp hg hl (by omega) (C59 hp hg hl (by omega) ?_)
      have same : (first (freeP ps) (lt b) s' → first (freeP ps) (lt b) u' → False) → p49z25 Try.prog K pv (S s') (S u') (S out') (B false) (cv (lt b)) L L2 h := by
        intro hno
        rw [q49z25]
        simp only [bin_add, OP_some, lt_succ (show b < 60 by omega), true_and]
        refine hL2 (s', u', out', false, b + 1) ⟨hI, by show b + 1 ≤ 6; omega, hm1, fun h => ⟨(hm2 h).1, fun c hc => ?_⟩⟩ (by show 6 - (b + 1) < 6 - b; omega)
        by_cases hcb : c = b
        · subst hcb; exact hno
        · exact (hm2 h).2 c (by have : c < b + 1 := hc; omega)
      simp only [bin_geq, OP_some]
      cases h1 : firstAt (freeP ps) (lt b) s' 0 with
      | none =>
        rw [q49z22, decide_eq_false (show ¬ (0 : Int) ≤ optI none by simp [optI])]
        simp only [GdP_ft, q49z24, iPick_f, OP_some, IfP_false]
        exact same fun ⟨i, hi⟩ _ => by rw [h1] at hi; cases hi
      | some i =>
        rw [q49z22, decide_eq_true (show (0 : Int) ≤ optI (some i) by simp [optI])]
        simp only [GdP_tt, bin_geq, OP_some]
        cases h2 : firstAt (freeP ps) (lt b) u' 0 with
        | none =>
          rw [q49z24, decide_eq_false (show ¬ (0 : Int) ≤ optI none by simp [optI])]
          simp only [iPick_t, OP_some, IfP_false]
          exact same fun _ ⟨i, hi⟩ => by rw [h2] at hi; cases hi
        | some j =>
          rw [q49z24, decide_eq_true (show (0 : Int) ≤ optI (some j) by simp [optI])]
          obtain ⟨hi, hix⟩ := firstAt_lt h1
          have hj := (firstAt_lt h2).1
          have w1 := without_length hi
          have w2 := without_length hj
          simp only [iPick_t, OP_some, IfP_true, optI, bin_add, inc i (by omega)]
          rw [slS_lh s' (by omega) (by omega)]
          have hsl : (s'.take (i + 1)).drop i = [lt b] := by
            rw [take_drop_one hi]
            rw [List.getElem?_eq_getElem hi] at hix
            simpa using hix
          rw [hsl]
          simp only [OP_some]
          rw [bin_addS _ _ (by simp only [List.length_cons, List.length_nil, maxLen]; omega)]
          simp only [OP_some]
          refine C60 hi (by omega) ⟨trivial, C60 hj (by omega) ⟨trivial, ?_⟩⟩
          rw [q49z25]
          simp only [bin_add, OP_some, lt_succ (show b < 60 by omega), true_and]
          refine hL2 (without s' i, without u' j, out' ++ [lt b], true, b + 1) ⟨hI.step hlt h1 h2, by show b + 1 ≤ 6; omega, fun _ => ?_, fun h => by cases h⟩ (by show 6 - (b + 1) < 6 - b; omega)
          show (without s' i).length < s.length
          have := (hm2 rfl).1
          omega
  · rw [decide_eq_false (show ¬ ((97 + b : Nat) : Int) ≤ 102 by omega)]
    simp only [q49z14, GdP_ft, q49z16, iPick_f, OP_some, IfP_false]
    exact done fun h c hc => (hm2 h).2 c (by omega)

end Go.Proofs.Ytjdlcokhlphmhaa
