/-
  The least equal seam, as both sides reckon it.
-/
import Derived.Test.YtjdlcokhlphmhaaCt2
namespace Go.Proofs.Ytjdlcokhlphmhaa
open Go.Sim

theorem lt_succ {a : Nat} (h : a < 60) : IntKind.wrap .u8 (((lt a).toNat : Int) + 1) = ((lt (a + 1)).toNat : Int) := by
  rw [lt_toNat (by omega), lt_toNat (by omega), wrapU8 (by omega) (by omega)]
  omega

theorem firstAt_lt {fr : UInt8 → UInt8 → Bool} {x : UInt8} {s : List UInt8} {i : Nat} (h : firstAt fr x s 0 = some i) : i < s.length ∧ s[i]? = some x := by
  obtain ⟨_, h2, h3⟩ := firstAt_ge h
  exact ⟨by omega, by simpa using h3⟩

theorem leastF_cons {fr : UInt8 → UInt8 → Bool} {n : Nat} {s : List UInt8} (hs : s ≠ []) (hl : letters n s) : ∃ a i, pickFrom fr s n 0 = some (a, i) ∧ a < n ∧ i < s.length ∧ firstAt fr (lt a) s 0 = some i ∧
    leastF fr n s.length s = lt a :: leastF fr n (without s i).length (without s i) := by
  obtain ⟨a, i, h1, h2, h3, h4⟩ := pick_some (fr := fr) hs hl
  refine ⟨a, i, h1, h2, h3, h4, ?_⟩
  have hw := without_length h3
  rw [← hw]
  simp only [leastF, h1]

theorem C21 {ps : List (Int × Int)} {pv : Value} {s : List UInt8} {h : Heap} {K : Value → Heap → Prop} (hp : PS h pv ps) (hg : good ps) (hl : ps.length ≤ 100) (hs : s.length ≤ 1000) (hlet : letters 6 s)
    (hk : K (S (leastF (freeP ps) 6 s.length s)) h) : CallP Try.prog 21 [pv, S s] h K := by
  refine f21 ?_
  refine loopL (σ := List UInt8 × List UInt8) (fun p => [S p.1, S p.2]) (fun _ => h)
    (fun p => letters 6 p.1 ∧ p.1.length + p.2.length ≤ 1000 ∧ leastF (freeP ps) 6 s.length s = p.2 ++ leastF (freeP ps) 6 p.1.length p.1) (fun p => p.1.length) (s, []) rfl rfl ⟨hlet, by simpa using hs, rfl⟩ ?_
  rintro ⟨t, out⟩ ⟨ht, hlen, hf⟩ L hL
  simp only at ht hlen hf hL ⊢
  rw [q21z5, S_nil]
  simp only [bin_neqS, OP_some, IfP_ndec]
  refine ⟨fun hne => ?_, fun he => ?_⟩
  · obtain ⟨a, i, h1, h2, h3, h4, h5⟩ := leastF_cons (fr := freeP ps) hne ht
    refine loopL (σ := Nat) (fun b => [S t, S out, cv (lt b)]) (fun _ => h) (fun b => b < 6 ∧ pickFrom (freeP ps) t (6 - b) b = some (a, i)) (fun b => 6 - b) 0 rfl rfl ⟨by omega, h1⟩ ?_
    rintro b ⟨hb, hpk⟩ L2 hL2
    rw [q21z11]
    simp only [bin_leq, OP_some, IfP_dec]
    refine ⟨fun _ => ?_, fun hgt => absurd (by rw [lt_toNat (by omega)]; omega) hgt⟩
    refine C59 hp hg hl (by omega) ?_
    rw [show 6 - b = (5 - b) + 1 by omega] at hpk
    simp only [pickFrom] at hpk
    simp only [bin_geq, OP_some, IfP_dec]
    cases hfa : firstAt (freeP ps) (lt b) t 0 with
    | some j =>
      rw [hfa] at hpk
      simp only [Option.some.injEq, Prod.mk.injEq] at hpk
      obtain ⟨rfl, rfl⟩ := hpk
      obtain ⟨hj, hjx⟩ := firstAt_lt hfa
      refine ⟨fun _ => ?_, fun hc => absurd (by simp [optI]) hc⟩
      simp only [optI, bin_add, OP_some, inc j (by omega)]
      rw [slS_lh t (by omega) (by omega)]
      have hw := without_length hj
      have hsl : (t.take (j + 1)).drop j = [lt b] := by
        apply List.ext_getElem?
        intro m
        rw [List.getElem?_drop, List.getElem?_take]
        match m with
        | 0 => simpa using hjx
        | m + 1 => simp
      rw [hsl]
      simp only [OP_some]
      rw [bin_addS _ _ (by simp only [List.length_cons, List.length_nil, maxLen]; omega)]
      simp only [OP_some]
      refine C60 hj (by omega) ?_
      simp only [true_and]
      refine hL (without t j, out ++ [lt b]) ⟨letters_without ht j, by simp; omega, by rw [hf, h5]; simp⟩ (by simp; omega)
    | none =>
      rw [hfa] at hpk
      simp only at hpk
      refine ⟨fun hc => absurd hc (by simp [optI]), fun _ => ?_⟩
      simp only [bin_add, OP_some, lt_succ (show b < 60 by omega), true_and]
      have hb5 : b < 5 := by
        apply Classical.byContradiction
        intro h
        rw [show 5 - b = 0 by omega] at hpk
        simp [pickFrom] at hpk
      exact hL2 (b + 1) ⟨by omega, by rw [show 6 - (b + 1) = 5 - b by omega]; exact hpk⟩ (by omega)
  · subst he
    rw [q21z19]
    simp [leastF] at hf
    rw [hf] at hk
    exact hk

theorem C57 {t : Value} {k : Nat} {cm : Nat → Nat → Bool} {s : List UInt8} {h : Heap} {K : Value → Heap → Prop} (hth : TH h t k cm) (hk6 : k ≤ 6) (hs : s.length ≤ 1000) (hlet : letters k s)
    (hk : K (S (leastF (frM cm) k s.length s)) h) : CallP Try.prog 57 [t, S s] h K := by
  refine callP_gc (v := S (leastF (frM cm) k s.length s)) (Ren.scal rfl) ?_ hk
  refine f57 ?_
  have let6 : ∀ {u : List UInt8}, letters k u → letters 6 u := fun hu c hc => let ⟨a, h1, h2⟩ := hu c hc; ⟨a, by omega, h2⟩
  refine loopL (σ := List UInt8 × List UInt8 × Value × Heap) (fun p => [S p.1, p.2.2.1]) (fun p => p.2.2.2)
    (fun p => letters k p.1 ∧ p.1.length + p.2.1.length ≤ 1000 ∧ EX h p.2.2.2 ∧ OwnS h.length p.2.2.2 5 p.2.2.1 (p.2.1.map cv) ∧ leastF (frM cm) k s.length s = p.2.1 ++ leastF (frM cm) k p.1.length p.1) (fun p => p.1.length)
    (s, [], .slice none 0 0, h) rfl rfl ⟨hlet, by simpa using hs, EX.refl h, .inl ⟨rfl, rfl⟩, rfl⟩ ?_
  rintro ⟨u, out, v, hx⟩ ⟨hu, hlen, hex, hown, hf⟩ L hL
  simp only at hu hlen hex hown hf hL ⊢
  rw [q57z5, S_nil]
  simp only [bin_neqS, OP_some, IfP_ndec]
  have hthx := hth.mono hex
  refine ⟨fun hne => ?_, fun he => ?_⟩
  · obtain ⟨a, i, h1, h2, h3, h4, h5⟩ := leastF_cons (fr := frM cm) hne hu
    obtain ⟨ti, rfl, hc⟩ := hthx
    have hld : iLoad false 1 hx (pt ti 0) = some (I k) := by simp [iLoad, hc, iPart, tcells]
    simp only [nilck_pt, OP_some, fadr_pt, Nat.zero_add, hld]
    refine loopL (σ := Nat) (fun b => [S u, v, I b]) (fun _ => hx) (fun b => b < k ∧ pickFrom (frM cm) u (k - b) b = some (a, i)) (fun b => k - b) 0 rfl rfl ⟨by omega, h1⟩ ?_
    rintro b ⟨hb, hpk⟩ L2 hL2
    rw [q57z11]
    simp only [bin_lss, OP_some, IfP_dec]
    refine ⟨fun _ => ?_, fun hgt => absurd (by omega) hgt⟩
    simp only [conv_int, OP_some, bin_add]
    rw [wrapU8 (n := (b : Int)) (by omega) (by omega), wrapU8 (by omega) (by omega)]
    have ecv : (.int .u8 (97 + (b : Int)) : Value) = cv (lt b) := by rw [cv_lt (by omega)]; congr 1
    rw [ecv]
    refine C84 ⟨ti, rfl, hc⟩ (by omega) (let6 hu) (by omega) ?_
    rw [show k - b = (k - b - 1) + 1 by omega] at hpk
    simp only [pickFrom] at hpk
    simp only [bin_geq, OP_some, IfP_dec]
    cases hfa : firstAt (frM cm) (lt b) u 0 with
    | some j =>
      rw [hfa] at hpk
      simp only [Option.some.injEq, Prod.mk.injEq] at hpk
      obtain ⟨rfl, rfl⟩ := hpk
      obtain ⟨hj, hjx⟩ := firstAt_lt hfa
      refine ⟨fun _ => ?_, fun hc => absurd (by simp [optI]) hc⟩
      refine app1 hown hex (by simp; omega) (by simp [maxLen]; omega) rfl rfl ?_
      intro v' hx' hex' hown'
      have hw := without_length hj
      refine C85 hj (by omega) ?_
      simp only [true_and]
      exact hL (without u j, out ++ [lt b], v', hx') ⟨letters_without hu j, by simp; omega, hex', by simpa using hown', by rw [hf, h5]; simp⟩ (by simp; omega)
    | none =>
      rw [hfa] at hpk
      simp only at hpk
      refine ⟨fun hc => absurd hc (by simp [optI]), fun _ => ?_⟩
      simp only [OP_some, inc b (by omega), true_and]
      have hb5 : b + 1 < k := by
        apply Classical.byContradiction
        intro h
        rw [show k - b - 1 = 0 by omega] at hpk
        simp [pickFrom] at hpk
      exact hL2 (b + 1) ⟨by omega, by rw [show k - (b + 1) = k - b - 1 by omega]; exact hpk⟩ (by omega)
  · subst he
    rw [q57z21]
    simp [leastF] at hf
    rw [b2s hown]
    simp only [OP_some]
    exact ⟨by rw [hf], hex⟩

end Go.Proofs.Ytjdlcokhlphmhaa
