/-
  Without pairs the best order goes by the ratios.
-/
import Derived.Test.YtelmdbpaoifmoaaSq23
namespace Go.Sim

theorem smith {bs : List Nat} {js : List (Int × Int)} (hj : smallF js) {n : Nat} (hn : n ≤ 10) (hu : acyc bs n) (hb : ∀ i, i < n → ∀ j, (bs.getD i 0).testBit j = false) {l : List Nat} (hg : GrP bs js n 0 l) {k : Nat} (hk : k + 1 < l.length) :
    weiJ js l[k + 1] * lenJ js l[k] ≤ weiJ js l[k] * lenJ js l[k + 1] ∧ (weiJ js l[k] * lenJ js l[k + 1] = weiJ js l[k + 1] * lenJ js l[k] → l[k] ≤ l[k + 1]) := by
  have hsplit : l = l.take k ++ l[k] :: l[k + 1] :: l.drop (k + 2) := by
    rw [List.getElem_cons_drop, List.getElem_cons_drop, List.take_append_drop]
  have hs : stO 0 (l.take k) < 2 ^ n := by
    refine stO_lt (Nat.pow_pos (by decide)) fun i hi => ?_
    exact okO_lt (hg.ok hn).1 i (List.mem_of_mem_take hi)
  rw [hsplit] at hg
  have h1 := hg.split
  generalize l[k] = i at *
  generalize l[k + 1] = d at *
  generalize stO 0 (l.take k) = s at *
  obtain ⟨⟨⟨a1, a2⟩, a3, a4⟩, ⟨⟨b1, b2⟩, b3, _⟩, _⟩ := h1
  have rdy : ∀ {s i}, i < n → s.testBit i = false → rdyS bs s i = true := by
    intro s i hi ht
    unfold rdyS
    rw [ht, Bool.not_false, Bool.true_and, subB_iff]
    intro j hj
    rw [hb i hi j] at hj; cases hj
  have ti := rdyS_bit a2
  have td := rdyS_bit b2
  rw [testBit_or_pow, Bool.or_eq_false_iff] at td
  have hne : i ≠ d := of_decide_eq_false td.2
  have tdi : (s ||| 2 ^ d).testBit i = false := by
    rw [testBit_or_pow, ti, Bool.false_or]
    exact decide_eq_false fun e => hne e.symm
  have r1 := rdy b1 td.1
  have r2 := rdy a1 tdi
  have g1 := minS_ge hj hn hu hs b1 r1
  have g2 := minS_ge hj hn hu (or_lt hs b1) a1 r2
  have comm : s ||| 2 ^ d ||| 2 ^ i = s ||| 2 ^ i ||| 2 ^ d := by rw [Nat.or_assoc, Nat.or_comm (2 ^ d), ← Nat.or_assoc]
  have e1 := now_step js (show i < 10 by omega) ti
  have e2 := now_step js (show d < 10 by omega) td.1
  unfold gC at a3 b3 g1 g2 a4
  rw [comm, e2] at g2
  rw [e1] at b3
  have x1 : weiJ js i * (nowS js s + lenJ js d + lenJ js i) = weiJ js i * (nowS js s + lenJ js i) + weiJ js i * lenJ js d := by
    rw [← Int.mul_add]; congr 1; omega
  have x2 : weiJ js d * (nowS js s + lenJ js i + lenJ js d) = weiJ js d * (nowS js s + lenJ js d) + weiJ js d * lenJ js i := by
    rw [← Int.mul_add]; congr 1; omega
  rw [x1] at g2
  rw [x2] at b3
  refine ⟨by omega, fun he => ?_⟩
  apply Classical.byContradiction
  intro hgt
  refine a4 d (by omega) ⟨r1, ?_⟩
  omega

end Go.Sim
