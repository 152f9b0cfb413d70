/-
  The document's division, rounded down.
-/
import Derived.Test.YtjdlcokhlphmhaaMg7
import Derived.Test.YtjdlcokhlphmhaaSh10
import Derived.Test.YtjdlcokhlphmhaaCtU
namespace Go.Proofs.Ytjdlcokhlphmhaa
open Go.Sim

theorem buildM {e : TypeId} {k : IntKind} {h : Heap} {v : Value} {xs : List Nat} (d : DS e k h v xs) : iBuild [(.bool false), (.slice none 0 0)] [(1, 1, v)] = some (.agg #[B false, v]) := by
  rcases d with ⟨rfl, _⟩ | ⟨i, rfl, _⟩ <;> rfl

theorem fldM (b : Bool) (v : Value) : iFld false 1 1 (.agg #[B b, v]) = some v := rfl

theorem big201 {n : Nat} (h : n < 10000 ^ 201) : n < bigW := by
  refine Nat.lt_of_lt_of_le h ?_
  unfold bigW
  decide +kernel

theorem MagZ.toZ {h : Heap} {v : Value} {n : Nat} (p : MagZ h v n) : ZV h (.agg #[B false, v]) (n : Int) := ⟨v, by rw [decide_eq_false (by omega)], by simpa using p⟩

/-- Times a digit. -/
theorem C125 {v : Value} {n d : Nat} {h : Heap} {K : Value → Heap → Prop} (hv : MagZ h v n) (hn : n < 10000 ^ 200) (hd : d ≤ 10000) (hk : ∀ r h', EX h h' → MagZ h' r (n * d) → K r h') : CallP Try.prog 125 [v, I d] h K := by
  have hnb : n < bigW := big201 (by
    have : (10000 : Nat) ^ 201 = 10000 ^ 200 * 10000 := by decide +kernel
    omega)
  have hprod : n * d < bigW := by
    refine big201 ?_
    have h1 : n * d ≤ n * 10000 := Nat.mul_le_mul_left _ hd
    have : (10000 : Nat) ^ 201 = 10000 ^ 200 * 10000 := by decide +kernel
    omega
  refine f125 ?_
  obtain ⟨xs, dx, cx⟩ := id hv
  simp only [T125, buildM dx, OP_some]
  refine C29 (z := d) (by omega) ?_
  intro r1 h1 x1 z1
  refine C77 (hv.toZ.mono x1) z1 (by simpa using hnb) (by have := big201 (n := 10000) (by decide +kernel); simp; omega) ?_
  intro r2 h2 x2 z2
  obtain ⟨u, rfl, hu⟩ := z2
  have e1 : ((n : Int) * (d : Int)).natAbs = n * d := by rw [Int.natAbs_mul]; simp
  rw [e1] at hu
  have e2 : decide ((n : Int) * (d : Int) < 0) = false := decide_eq_false (by have : (n : Int) * (d : Int) = ((n * d : Nat) : Int) := by simp
                                                                              omega)
  rw [e2]
  obtain ⟨ys, dy, cy, vy⟩ := hu
  have ly := canZ_len cy (by rw [vy]; exact hprod)
  refine C98 dy cy.1 (by omega) ?_
  intro r3 h3 x3 z3
  simp only [Bool.false_eq_true, if_false, vy] at z3
  obtain ⟨w, rfl, hw⟩ := z3
  rw [fldM]
  rw [Int.natAbs_natCast] at hw
  exact OP_some.2 (hk _ _ ((x1.trans x2).trans x3) hw)

theorem MagZ.keepI {h h' : Heap} {n i m : Nat} (p : MagZ h (sl 3 i 0 m) n) (hi : h'[i]? = h[i]?) : MagZ h' (sl 3 i 0 m) n := by
  obtain ⟨xs, d, c, v⟩ := p
  refine ⟨xs, ?_, c, v⟩
  rcases d with ⟨h1, h2⟩ | ⟨j, h1, h2⟩
  · cases h1
  · obtain ⟨rfl, rfl⟩ := sl_inj h1
    refine .inr ⟨i, rfl, h2.imp id ?_⟩
    rintro ⟨r, hr⟩
    refine ⟨r, ?_⟩
    unfold objCells at hr ⊢
    rw [hi]; exact hr

/-- A digit at the front. -/
theorem consD {h : Heap} {v : Value} {ys : List Nat} {d : Nat} {K : Value → Heap → Prop} (p : DS 3 .i64 h v ys) (hl : ys.length ≤ 1000) (hk : ∀ r h', EX h h' → DS 3 .i64 h' r (d :: ys) → K r h') :
    OH (iMkSl 3 1 [.int .i64 0] h [(0, 1, I d)]) fun a h1 => OH (iApp 3 1 8 h1 a v) K := by
  have e1 : iMkSl 3 1 [.int .i64 0] h [(0, 1, I d)] = some (sl 3 h.length 0 1, h ++ [.arr 3 [I d]]) := rfl
  rw [e1]
  simp only [OH_some]
  obtain ⟨c1, c2⟩ := (p.mono (EX.append h [.arr 3 [I d]])).cells
  by_cases hn0 : ys.length = 0
  · have : ys = [] := List.length_eq_zero_iff.1 hn0
    subst this
    have e2 : iApp 3 1 8 (h ++ [.arr 3 [I d]]) (sl 3 h.length 0 1) v = some (sl 3 h.length 0 1, h ++ [.arr 3 [I d]]) := by
      simp [iApp, c1, c2, sl, maxLen]
    rw [e2]
    simp only [OH_some]
    exact hk _ _ (EX.append _ _) (.inr ⟨h.length, rfl, .inr ⟨[], by simp [objCells]⟩⟩)
  · have hg : (h ++ [IObj.arr 3 [I d]])[h.length]? = some (.arr 3 [I d]) := get_last
    have e2 : iApp 3 1 8 (h ++ [.arr 3 [I d]]) (sl 3 h.length 0 1) v = some (sl 3 (h.length + 1) 0 (1 + ys.length), (h ++ [IObj.arr 3 [I d]]).set h.length .dead ++ [.arr 3 ([I d] ++ ys.map fun d : Nat => I d)]) := by
      simp only [iApp, c1, c2]
      simp only [sl, hg]
      rw [if_pos ⟨trivial, trivial, by simp, by omega, by unfold maxLen; omega⟩, if_neg hn0]
      simp
    rw [e2]
    simp only [OH_some]
    refine hk _ _ (((EX.append _ _).set (Nat.le_refl _) _).push _) (.inr ⟨h.length + 1, by rw [List.length_cons, Nat.add_comm 1], .inr ⟨[], ?_⟩⟩)
    unfold objCells
    rw [List.getElem?_append_right (by simp)]
    simp

theorem val_drop (B : Nat) (xs : List Nat) {i : Nat} (hi : i < xs.length) : val B (xs.drop i) = xs[i] + B * val B (xs.drop (i + 1)) := by
  rw [List.drop_eq_getElem_cons hi]; rfl

theorem sgn_le {a b : Nat} : sgn a b ≤ 0 ↔ a ≤ b := by
  unfold sgn
  split
  · constructor <;> omega
  · split <;> constructor <;> omega

theorem ediv_of {a b q r : Nat} (hb : 0 < b) (h : q * b + r = a) (hr : r < b) : a / b = q ∧ a % b = r := by
  subst h
  constructor
  · rw [Nat.mul_comm, Nat.mul_add_div hb, Nat.div_eq_of_lt hr, Nat.add_zero]
  · rw [Nat.mul_comm, Nat.mul_add_mod, Nat.mod_eq_of_lt hr]

theorem C113 {va vb : Value} {a b : Int} {h : Heap} {K : Value → Heap → Prop} (ha : ZV h va a) (hb : ZV h vb b) (hb0 : 0 < b) (la : a.natAbs < 10000 ^ 199) (lb : b.natAbs < 10000 ^ 199)
    (hk : ∀ r s h', EX h h' → ZV h' r (a / b) → ZV h' s (a % b) → K (.tuple #[r, s]) h') : CallP Try.prog 113 [va, vb] h K := by
  obtain ⟨v, rfl, hv⟩ := ha
  obtain ⟨w, rfl, hw⟩ := hb
  have hp200 : (10000 : Nat) ^ 200 = 10000 ^ 199 * 10000 := by decide +kernel
  have hp201 : (10000 : Nat) ^ 201 = 10000 ^ 200 * 10000 := by decide +kernel
  refine f113 ?_
  unfold T113
  refine box2z ?_
  intro h3 x
  obtain ⟨B, hBb⟩ : ∃ B : Nat, b = B := ⟨b.toNat, by omega⟩
  subst hBb
  have hB0 : 0 < B := by omega
  have hBl : B < 10000 ^ 199 := by simpa using lb
  obtain ⟨xs, dx, cx, ex⟩ := hv.mono x.ex
  have l1 := canZ_len cx (by rw [ex]; exact big201 (by omega))
  have hwB : MagZ h3 w B := by have := hw.mono x.ex; simpa using this
  have e2 : iAlloc 46 [(.bool false), (.slice none 0 0)] h3 = some (pt h3.length 0, h3 ++ [.arr 46 [(.bool false), (.slice none 0 0)]]) := rfl
  simp only [e2, OH_some, fadr_pt, Nat.add_zero, Nat.zero_add]
  have x4 : EX h3 (h3 ++ [.arr 46 [(.bool false), (.slice none 0 0)]]) := EX.append _ _
  have g5 : (h3 ++ [IObj.arr 46 [(.bool false), (.slice none 0 0)]])[h3.length]? = some (.arr 46 [(.bool false), (.slice none 0 0)]) := get_last
  have hl3 : h.length + 2 < h3.length := (List.getElem?_eq_some_iff.1 x.out).1
  generalize hh4 : h3 ++ [IObj.arr 46 [(.bool false), (.slice none 0 0)]] = h4 at x4 g5 ⊢
  have hl4 : h4.length = h3.length + 1 := by rw [← hh4]; simp
  clear hh4
  have dx4 := dx.mono x4
  simp only [EX.load x4 x.a1, OP_some, dx4.len, make_hz (show xs.length ≤ 1000 by omega), OH_some, EX.load (x4.trans (hz_EX h4 _)) x.a1, mkD0]
  have e6 : IntKind.wrap .i64 ((xs.length : Int) - 1) = (xs.length : Int) - 1 := wrap64 (by omega) (by omega)
  have x6 : EX h4 (hz h4 (List.replicate xs.length 0) ++ [.arr 3 []]) := (hz_EX h4 _).push _
  simp only [EX.load (x4.trans x6) x.a1, OP_some, dx4.len, bin_sub, e6]
  have hq0 : (hz h4 (List.replicate xs.length 0) ++ [IObj.arr 3 []])[h4.length]? = some (.arr 3 ((List.replicate xs.length 0).map fun d : Nat => I d)) := by
    rw [List.getElem?_append_left (by simp [hz])]; exact hz_get _ _
  have hr0 : MagZ (hz h4 (List.replicate xs.length 0) ++ [IObj.arr 3 []]) (sl 3 (hz h4 (List.replicate xs.length 0)).length 0 0) 0 := ⟨[], .inr ⟨_, rfl, .inl rfl⟩, Canon.nil _, rfl⟩
  refine loopL (σ := Nat × Nat × Value × List Nat × Heap) (fun p => [p.2.2.1, I ((p.1 : Int) - 1)]) (fun p => p.2.2.2.2)
    (fun p => p.1 ≤ xs.length ∧ EX h4 p.2.2.2.2 ∧ p.2.2.2.2[h4.length]? = some (.arr 3 (p.2.2.2.1.map fun d : Nat => I d)) ∧ p.2.2.2.1.length = xs.length ∧ Lim 10000 p.2.2.2.1 ∧ MagZ p.2.2.2.2 p.2.2.1 p.2.1 ∧ p.2.1 < B ∧ val 10000 (p.2.2.2.1.drop p.1) * B + p.2.1 = val 10000 (xs.drop p.1)) (fun p => p.1)
    (xs.length, 0, _, List.replicate xs.length 0, _) rfl rfl ⟨Nat.le_refl _, x6, hq0, by simp, Lim.zeros (by decide) _, hr0, hB0, by simp [val]⟩ ?_
  rintro ⟨i, R, rv, qs, g⟩ ⟨hi, xg, hq, hql, hqlim, hR, hRB, hval⟩ L hL
  simp only at hi xg hq hql hqlim hR hRB hval hL ⊢
  have ldA : ∀ {g'}, EX h4 g' → iLoad false 1 g' (pt h.length 1) = some v := fun y => EX.load (x4.trans y) x.a1
  have ldB : ∀ {g'}, EX h4 g' → iLoad false 1 g' (pt (h.length + 1) 1) = some w := fun y => EX.load (x4.trans y) x.b1
  rw [q113z6]
  simp only [bin_geq, OP_some, IfP_dec]
  refine ⟨fun hge => ?_, fun hlt => ?_⟩
  · obtain ⟨j, rfl⟩ : ∃ j, i = j + 1 := ⟨i - 1, by omega⟩
    have ej : ((j + 1 : Nat) : Int) - 1 = (j : Int) := by omega
    have hjx : j < xs.length := by omega
    obtain ⟨ia, a1, a2⟩ := (dx4.mono xg).get hjx
    have hxj : xs[j] < 10000 := cx.1 _ (List.getElem_mem hjx)
    have hvd := val_drop 10000 xs hjx
    rw [ej]
    simp only [fadr_pt, Nat.zero_add, ldA xg, OP_some, a1, a2]
    obtain ⟨rs, dr, cr, vr⟩ := id hR
    have lr := canZ_len cr (by rw [vr]; exact big201 (by omega))
    refine consD dr (by omega) ?_
    intro r1 g1 y1 d1
    simp only [buildM d1, OP_some]
    refine C98f d1 (fun z hz => by
      rcases List.mem_cons.1 hz with rfl | hz
      · exact hxj
      · exact cr.1 z hz) (by simp; omega) ?_
    rintro r2 g2 y2 z2 ⟨fb, fi, fn, rfl, hfi⟩
    have ev : val 10000 (xs[j] :: rs) = xs[j] + 10000 * R := by simp only [val, vr]
    simp only [Bool.false_eq_true, if_false, ev] at z2
    obtain ⟨rw2, hrw2e, hrw⟩ := z2
    injection hrw2e with hrw2e
    injection hrw2e with hrw2e
    simp only [List.cons.injEq, and_true] at hrw2e
    obtain ⟨_, rfl⟩ := hrw2e
    rw [fldM]
    have hrw2 : MagZ g2 (sl 3 fi 0 fn) (xs[j] + 10000 * R) := by
      rw [Int.natAbs_natCast] at hrw
      exact hrw
    have hfi4 : h4.length < fi := by
      have h9 := (List.getElem?_eq_some_iff.1 hq).1
      have h8 := y1.1
      omega
    simp only [OP_some]
    have hR' : xs[j] + 10000 * R < 10000 * B := by omega
    generalize hRR : xs[j] + 10000 * R = R' at hrw2 hR'
    have xg2 : EX h4 g2 := (xg.trans y1).trans y2
    refine loopL (σ := Nat × Nat × Heap) (fun p => [I p.1, I p.2.1]) (fun p => p.2.2) (fun p => p.1 < p.2.1 ∧ p.2.1 ≤ 10000 ∧ EX g2 p.2.2 ∧ p.1 * B ≤ R' ∧ R' < p.2.1 * B) (fun p => p.2.1 - p.1)
      (0, 10000, g2) rfl rfl ⟨by show 0 < 10000; decide, Nat.le_refl _, EX.refl _, by simp, hR'⟩ ?_
    rintro ⟨lo, hi2, g3⟩ ⟨hlh, hh, y3, hlo, hhi⟩ L2 hL2
    simp only at hlh hh y3 hlo hhi hL2 ⊢
    have xg3 : EX h4 g3 := xg2.trans y3
    rw [q113z15]
    have e7 : IntKind.wrap .i64 ((hi2 : Int) - (lo : Int)) = ((hi2 - lo : Nat) : Int) := by rw [wrap64 (by omega) (by omega)]; omega
    have e8 : IntKind.wrap .i64 ((lo : Int) + (hi2 : Int)) = ((lo + hi2 : Nat) : Int) := by rw [wrap64 (by omega) (by omega)]; omega
    simp only [bin_sub, e7, OP_some, bin_gtr, IfP_dec]
    refine ⟨fun hgt => ?_, fun hle => ?_⟩
    · simp only [bin_add, e8, OP_some]
      rw [show (.int .i64 2 : Value) = .int .i64 ((2 : Nat) : Int) from rfl, quoI (by decide) (by omega)]
      simp only [OP_some, fadr_pt, Nat.zero_add, ldB xg3]
      have hm : (lo + hi2) / 2 ≤ 10000 := by omega
      refine C125 ((hwB.mono x4).mono xg3) (by omega) hm ?_
      intro r4 g4 y4 m4
      have hbm : B * ((lo + hi2) / 2) < bigW := by
        refine big201 ?_
        have := Nat.mul_le_mul_left B hm
        omega
      refine C100 (a := B * ((lo + hi2) / 2)) (b := R') m4 ((hrw2.mono y3).mono y4) hbm (big201 (by omega)) ?_
      simp only [bin_leq, OP_some, IfP_dec, true_and]
      generalize hmm : (lo + hi2) / 2 = mid at *
      have hml : lo < mid ∧ mid < hi2 := by omega
      refine ⟨fun h0 => ?_, fun h0 => ?_⟩
      · have := sgn_le.1 h0
        exact hL2 (mid, hi2, g4) ⟨hml.2, hh, y3.trans y4, by show mid * B ≤ R'; rw [Nat.mul_comm]; exact this, hhi⟩ (by show hi2 - mid < hi2 - lo; omega)
      · have : ¬ B * mid ≤ R' := fun h9 => h0 (sgn_le.2 h9)
        exact hL2 (lo, mid, g4) ⟨hml.1, by show mid ≤ 10000; omega, y3.trans y4, hlo, by show R' < mid * B; rw [Nat.mul_comm]; omega⟩ (by show mid - lo < hi2 - lo; omega)
    · have hhl : hi2 = lo + 1 := by omega
      subst hhl
      have hRl : R' < lo * B + B := by rw [Nat.succ_mul] at hhi; exact hhi
      rw [q113z21]
      have hq3 : g3[h4.length]? = some (.arr 3 (qs.map fun d : Nat => I d)) := by
        rw [← hq]
        have hgl := (List.getElem?_eq_some_iff.1 hq).1
        rw [((y1.trans y2).trans y3).2 _ hgl]
      have ad : iAdrSl 1 (sl 3 h4.length 0 xs.length) (I j) = some (pt h4.length j) := adr_sl hjx
      simp only [ad, OP_some]
      rw [store_at hq3 (by simp; omega) rfl rfl]
      simp only [OH_some]
      have es : (qs.map fun d : Nat => I d).set j (I lo) = (qs.set j lo).map fun d : Nat => I d := by rw [List.map_set]
      rw [es]
      have xg5 : EX h4 (g3.set h4.length (.arr 3 ((qs.set j lo).map fun d : Nat => I d))) := xg3.set (Nat.le_refl _) _
      have hq5 : (g3.set h4.length (.arr 3 ((qs.set j lo).map fun d : Nat => I d)))[h4.length]? = some (.arr 3 ((qs.set j lo).map fun d : Nat => I d)) := set_get hq3
      -- the rest does not lie there
      have hrw5 : MagZ (g3.set h4.length (.arr 3 ((qs.set j lo).map fun d : Nat => I d))) (sl 3 fi 0 fn) R' := (hrw2.mono y3).keepI (by rw [List.getElem?_set_ne (by omega)])
      generalize g3.set h4.length (.arr 3 ((qs.set j lo).map fun d : Nat => I d)) = g5 at xg5 hq5 hrw5 ⊢
      simp only [fadr_pt, Nat.zero_add, ldB xg5, OP_some]
      refine C125 ((hwB.mono x4).mono xg5) (by omega) (by omega) ?_
      intro r6 g6 y6 m6
      obtain ⟨us, du, cu, vu⟩ := hrw5.mono y6
      obtain ⟨ts, dt, ct, vt⟩ := m6
      have hBlo : B * lo ≤ R' := by rw [Nat.mul_comm]; exact hlo
      have lu := canZ_len cu (by rw [vu]; exact big201 (by omega))
      refine C101 du dt cu.1 ct.1 (by omega) ?_ (by rw [vu, vt]; exact hBlo) ?_
      · apply Classical.byContradiction
        intro hc
        have := Canon.lt_of_len (by decide) cu ct (by omega)
        omega
      intro r7 g7 os y7 d7 l7 s7 v7
      simp only [buildM d7, OP_some]
      refine C98 d7 l7 (by omega) ?_
      intro r8 g8 y8 z8
      simp only [Bool.false_eq_true, if_false] at z8
      obtain ⟨rw8, rfl, hrw8⟩ := z8
      rw [fldM]
      simp only [OP_some]
      have ej2 : IntKind.wrap .i64 ((j : Int) - 1) = (j : Int) - 1 := wrap64 (by omega) (by omega)
      simp only [q113z23, bin_sub, ej2, OP_some, true_and]
      have hlo4 : lo < 10000 := by omega
      have hv7 : val 10000 os = R' - B * lo := by omega
      have hrw8' : MagZ g8 rw8 (R' - B * lo) := by rw [← hv7]; simpa using hrw8
      have hBB : B * lo = lo * B := Nat.mul_comm _ _
      refine hL (j, R' - B * lo, rw8, qs.set j lo, g8) ⟨by show j ≤ xs.length; omega, ((xg5.trans y6).trans y7).trans y8, ?_, by rw [List.length_set]; exact hql, hqlim.set hlo4 _, hrw8', by show R' - B * lo < B; omega, ?_⟩ (by show j < j + 1; omega)
      · have hgl := (List.getElem?_eq_some_iff.1 hq5).1
        show g8[h4.length]? = _
        rw [((y6.trans y7).trans y8).2 _ hgl]; exact hq5
      · show val 10000 ((qs.set j lo).drop j) * B + (R' - B * lo) = val 10000 (xs.drop j)
        have hd : (qs.set j lo).drop j = lo :: qs.drop (j + 1) := by
          rw [List.drop_eq_getElem_cons (by rw [List.length_set]; omega), List.getElem_set_self]
          congr 1
          rw [List.drop_set_of_lt (by omega)]
        rw [hd, hvd, ← hval]
        simp only [val]
        have h1 : (lo + 10000 * val 10000 (qs.drop (j + 1))) * B = lo * B + 10000 * (val 10000 (qs.drop (j + 1)) * B) := by rw [Nat.add_mul, Nat.mul_assoc]
        rw [h1]
        omega
  · have hi0 : i = 0 := by omega
    subst hi0
    simp only [List.drop_zero] at hval
    rw [q113z24]
    have ld0 : ∀ {g'}, EX h4 g' → iLoad false 1 g' (pt h.length 0) = some (Go.Sim.B (decide (a < 0))) := fun y => EX.load (x4.trans y) x.a0
    have dq : DS 3 .i64 g (sl 3 h4.length 0 xs.length) qs := by
      rw [← hql]
      exact .inr ⟨h4.length, rfl, .inr ⟨[], by simp [objCells, hq]⟩⟩
    simp only [fadr_pt, Nat.add_zero, Nat.zero_add, ld0 xg, OP_some, build2 dq]
    refine C98 dq hqlim (by omega) ?_
    intro r1 g1 y1 z1
    generalize hQ : val 10000 qs = Q at z1 hval
    obtain ⟨rs, dr, cr, vr⟩ := hR.mono y1
    have lr := canZ_len cr (by rw [vr]; exact big201 (by omega))
    simp only [buildM dr, OP_some]
    refine C98 dr cr.1 (by omega) ?_
    intro r2 g2 y2 z2
    simp only [Bool.false_eq_true, if_false, vr] at z2
    have z1 := z1.mono y2
    have xg2 : EX h4 g2 := (xg.trans y1).trans y2
    have hl2 : h3.length + 1 ≤ g2.length := by have := xg2.1; omega
    obtain ⟨uq, rfl, hq'⟩ := id z1
    obtain ⟨ur, rfl, hr'⟩ := id z2
    have e3 : ∀ g' : Heap, iAlloc 46 [(.bool false), (.slice none 0 0)] g' = some (pt g'.length 0, g' ++ [.arr 46 [(.bool false), (.slice none 0 0)]]) := fun _ => rfl
    simp only [e3, OH_some, List.length_append, List.length_cons, List.length_nil, Nat.zero_add]
    have k0 : (g2 ++ [IObj.arr 46 [(.bool false), (.slice none 0 0)]] ++ [IObj.arr 46 [(.bool false), (.slice none 0 0)]])[g2.length]? = some (.arr 46 [(.bool false), (.slice none 0 0)]) := by simp
    have k1 : (g2 ++ [IObj.arr 46 [(.bool false), (.slice none 0 0)]] ++ [IObj.arr 46 [(.bool false), (.slice none 0 0)]])[g2.length + 1]? = some (.arr 46 [(.bool false), (.slice none 0 0)]) := by simp
    have y3 : EX g2 (g2 ++ [IObj.arr 46 [(.bool false), (.slice none 0 0)]] ++ [IObj.arr 46 [(.bool false), (.slice none 0 0)]]) := (EX.append _ _).push _
    generalize g2 ++ [IObj.arr 46 [(.bool false), (.slice none 0 0)]] ++ [IObj.arr 46 [(.bool false), (.slice none 0 0)]] = g3 at k0 k1 y3 ⊢
    rw [store2 k0]
    simp only [OH_some]
    have y4 : EX g2 (g3.set g2.length (.arr 46 [Go.Sim.B (decide ((if decide (a < 0) = true then -(Q : Int) else (Q : Int)) < 0)), uq])) := y3.set (Nat.le_refl _) _
    have k0' := set_get (o := .arr 46 [Go.Sim.B (decide ((if decide (a < 0) = true then -(Q : Int) else (Q : Int)) < 0)), uq]) k0
    have k1' : (g3.set g2.length (.arr 46 [Go.Sim.B (decide ((if decide (a < 0) = true then -(Q : Int) else (Q : Int)) < 0)), uq]))[g2.length + 1]? = some (.arr 46 [(.bool false), (.slice none 0 0)]) := by rw [List.getElem?_set_ne (by omega)]; exact k1
    generalize g3.set g2.length (.arr 46 [Go.Sim.B (decide ((if decide (a < 0) = true then -(Q : Int) else (Q : Int)) < 0)), uq]) = g4 at y4 k0' k1' ⊢
    rw [store2 k1']
    simp only [OH_some]
    have y5 : EX g2 (g4.set (g2.length + 1) (.arr 46 [Go.Sim.B (decide ((R : Int) < 0)), ur])) := y4.set (by omega) _
    have m1 := set_get (o := .arr 46 [Go.Sim.B (decide ((R : Int) < 0)), ur]) k1'
    have m0 : (g4.set (g2.length + 1) (.arr 46 [Go.Sim.B (decide ((R : Int) < 0)), ur]))[g2.length]? = some (.arr 46 [Go.Sim.B (decide ((if decide (a < 0) = true then -(Q : Int) else (Q : Int)) < 0)), uq]) := by rw [List.getElem?_set_ne (by omega)]; exact k0'
    generalize g4.set (g2.length + 1) (.arr 46 [Go.Sim.B (decide ((R : Int) < 0)), ur]) = g5h at y5 m0 m1 ⊢
    have xg5 : EX h4 g5h := xg2.trans y5
    have xh5 : EX h g5h := (x.ex.trans x4).trans xg5
    have o4 := xg5.get (x4.get x.out)
    have o5 := xg5.get g5
    have zq := z1.mono y5
    have zr := z2.mono y5
    have zb : ZV g5h (.agg #[Go.Sim.B (decide ((B : Int) < 0)), w]) (B : Int) := ⟨w, rfl, (hw.mono x.ex).mono (x4.trans xg5)⟩
    have hQv : Q * B + R = a.natAbs := by rw [hval, ex]
    -- the two results
    have put : ∀ (r s : Value) (g6 : Heap), EX g5h g6 → ZV g6 r (a / (B : Int)) → ZV g6 s (a % (B : Int)) → OH (oStore 2 g6 (pt (h.length + 2) 0) r) fun _ h_1 => OH (oStore 2 h_1 (pt h3.length 0) s) fun _ h_2 => OP (iLoad true 2 h_2 (pt (h.length + 2) 0)) fun r0 => OP (iLoad true 2 h_2 (pt h3.length 0)) fun r1 => K (.tuple #[r0, r1]) h_2 := by
      rintro r s g6 y6 zr' zs'
      obtain ⟨u1, rfl, hu1⟩ := id zr'
      obtain ⟨u2, rfl, hu2⟩ := id zs'
      have n4 := y6.get o4
      have n5 := y6.get o5
      rw [store2 n4]
      simp only [OH_some]
      have n5' : (g6.set (h.length + 2) (.arr 46 [Go.Sim.B (decide (a / (B : Int) < 0)), u1]))[h3.length]? = some (.arr 46 [.bool false, .slice none 0 0]) := by rw [List.getElem?_set_ne (by omega)]; exact n5
      rw [store2 n5']
      simp only [OH_some]
      have p4 : ((g6.set (h.length + 2) (.arr 46 [Go.Sim.B (decide (a / (B : Int) < 0)), u1])).set h3.length (.arr 46 [Go.Sim.B (decide (a % (B : Int) < 0)), u2]))[h.length + 2]? = some (.arr 46 [Go.Sim.B (decide (a / (B : Int) < 0)), u1]) := by
        rw [List.getElem?_set_ne (by omega)]; exact set_get n4
      rw [load2 p4, OP_some, load2 (set_get n5'), OP_some]
      exact hk _ _ _ (((xh5.trans y6).set (by omega) _).set (by omega) _) ((zr'.setB n4 _).setB n5' _) ((zs'.setB n4 _).setB n5' _)
    have hBne : (0 : Int) < (B : Int) := by omega
    have un : ∀ q r : Int, r + (B : Int) * q = a → 0 ≤ r → r < (B : Int) → a / (B : Int) = q ∧ a % (B : Int) = r := fun q r h1 h2 h3 => (Int.ediv_emod_unique hBne).2 ⟨h1, h2, h3⟩
    have hQB : ((Q * B : Nat) : Int) = (B : Int) * (Q : Int) := by rw [Int.natCast_mul, Int.mul_comm]
    -- nothing to be turned
    have plain : (0 ≤ a ∨ R = 0) → p113z31 Try.prog K (pt (h.length + 1) 0) (pt (h.length + 2) 0) (pt h3.length 0) (pt g2.length 0) (pt (g2.length + 1) 0) (Go.Sim.B false) undef g5h ∧ p113z31 Try.prog K (pt (h.length + 1) 0) (pt (h.length + 2) 0) (pt h3.length 0) (pt g2.length 0) (pt (g2.length + 1) 0) (Go.Sim.B true) (Go.Sim.B false) g5h := by
      intro hc
      have hun : a / (B : Int) = (if decide (a < 0) = true then -(Q : Int) else (Q : Int)) ∧ a % (B : Int) = (R : Int) := by
        by_cases hneg : a < 0
        · have hR0 : R = 0 := by omega
          rw [decide_eq_true hneg, if_pos rfl]
          refine un _ _ ?_ (by omega) (by omega)
          rw [Int.mul_neg, ← hQB]
          omega
        · rw [decide_eq_false hneg, if_neg (by simp)]
          refine un _ _ ?_ (by omega) (by omega)
          rw [← hQB]
          omega
      have tail : OP (iLoad true 2 g5h (pt g2.length 0)) fun x90 => OP (iLoad true 2 g5h (pt (g2.length + 1) 0)) fun x91 => OH (oStore 2 g5h (pt (h.length + 2) 0) x90) fun _ h_1 => (iLoad true 2 h_1 (pt (g2.length + 1) 0) = some x91) ∧ OH (oStore 2 h_1 (pt h3.length 0) x91) fun _ h_2 => OP (iLoad true 2 h_2 (pt (h.length + 2) 0)) fun r0 => OP (iLoad true 2 h_2 (pt h3.length 0)) fun r1 => K (.tuple #[r0, r1]) h_2 := by
        have := put _ _ g5h (EX.refl _) (by rw [hun.1]; exact zq) (by rw [hun.2]; exact zr)
        rw [load2 m0, OP_some, load2 m1, OP_some]
        rw [store2 o4] at this ⊢
        simp only [OH_some] at this ⊢
        refine ⟨?_, this⟩
        refine load2 (e := 46) ?_
        rw [List.getElem?_set_ne (by omega)]
        exact m1
      constructor
      · rw [q113z31]
        simp only [iPick_f, OP_some, IfP_false, true_and, and_true]
        exact tail
      · rw [q113z31]
        simp only [iPick_t, OP_some, IfP_false, true_and, and_true]
        exact tail
    have ldl : iLoad false 1 g5h (pt (g2.length + 1) 1) = some ur := by simp [iLoad, objCells, m1, iPart]
    obtain ⟨l, p1, p2⟩ := (hr'.mono y5).len0
    have p2' : 0 < l ↔ 0 < R := by simpa using p2
    simp only [ld0 xg5, OP_some, q113z29]
    by_cases hneg : a < 0
    · rw [decide_eq_true hneg]
      simp only [GdP_tt, fadr_pt, Nat.add_comm 0 1, ldl, OP_some, p1, bin_gtr]
      by_cases hR0 : R = 0
      · rw [decide_eq_false (by omega)]
        exact (plain (.inr hR0)).2
      · rw [decide_eq_true (by omega), q113z31]
        have hbigA : a.natAbs < bigW := big201 (by omega)
        have hQle : Q ≤ a.natAbs := by
          have : Q * 1 ≤ Q * B := Nat.mul_le_mul_left _ hB0
          omega
        have hone : (1 : Int).natAbs < bigW := lt_bigW (by decide +kernel)
        simp only [iPick_t, OP_some, IfP_true, load2 m0, true_and]
        refine C29 (z := 1) (by decide) ?_
        intro r6 g6 y6 z6
        refine ⟨⟨EX.load y6 (load2 m0), trivial⟩, ?_⟩
        have ldb : ∀ {g'}, EX h4 g' → iLoad true 2 g' (pt (h.length + 1) 0) = some (.agg #[Go.Sim.B (decide ((B : Int) < 0)), w]) := fun y => EX.load (x4.trans y) x.b2
        refine C105 (zq.mono y6) z6 (by rw [decide_eq_true hneg, if_pos rfl]; omega) hone ?_
        intro r7 g7 y7 z7
        have xg7 := (xg5.trans y6).trans y7
        simp only [ldb xg5, ldb (xg5.trans y6), ldb xg7, OP_some, load2 m1, EX.load y6 (load2 m1), EX.load (y6.trans y7) (load2 m1), true_and, and_true]
        refine C105 (zb.mono (y6.trans y7)) (zr.mono (y6.trans y7)) (by have := big201 (n := B) (by omega); simpa using this) (by have := big201 (n := R) (by omega); simpa using this) ?_
        intro r8 g8 y8 z8
        have hun := un (-(Q : Int) - 1) ((B : Int) - (R : Int)) (by
          rw [Int.mul_sub, Int.mul_neg, ← hQB, Int.mul_one]
          omega) (by omega) (by omega)
        rw [decide_eq_true hneg, if_pos rfl] at z7
        exact put _ _ g8 ((y6.trans y7).trans y8) (by rw [hun.1]; exact z7.mono y8) (by rw [hun.2]; exact z8)
    · rw [decide_eq_false hneg]
      simp only [GdP_ft]
      exact (plain (.inl (by omega))).1

end Go.Proofs.Ytjdlcokhlphmhaa

/-
  The document's fractions in lowest terms, and as texts.
-/
namespace Go.Proofs.Ytjdlcokhlphmhaa
open Go.Sim

theorem C97 {va : Value} {a : Int} {h : Heap} {K : Value → Heap → Prop} (ha : ZV h va a) (hk : ∀ u h', EX h h' → MagZ h' u a.natAbs → K (.agg #[B false, u]) h') : CallP Try.prog 97 [va] h K := by
  obtain ⟨v, rfl, hv⟩ := ha
  refine f97 ?_
  have e1 : iBox 46 h (.agg #[B (decide (a < 0)), v]) = some (pt h.length 0, h ++ [.arr 46 [B (decide (a < 0)), v]]) := rfl
  have e2 : ∀ g' : Heap, iAlloc 46 [(.bool false), (.slice none 0 0)] g' = some (pt g'.length 0, g' ++ [.arr 46 [(.bool false), (.slice none 0 0)]]) := fun _ => rfl
  simp only [T97, e1, e2, OH_some, List.length_append, List.length_cons, List.length_nil, Nat.zero_add]
  have k0 : (h ++ [IObj.arr 46 [B (decide (a < 0)), v]] ++ [IObj.arr 46 [(.bool false), (.slice none 0 0)]])[h.length]? = some (.arr 46 [B (decide (a < 0)), v]) := by simp
  have k1 : (h ++ [IObj.arr 46 [B (decide (a < 0)), v]] ++ [IObj.arr 46 [(.bool false), (.slice none 0 0)]])[h.length + 1]? = some (.arr 46 [(.bool false), (.slice none 0 0)]) := by simp
  have x1 : EX h (h ++ [IObj.arr 46 [B (decide (a < 0)), v]] ++ [IObj.arr 46 [(.bool false), (.slice none 0 0)]]) := (EX.append _ _).push _
  generalize h ++ [IObj.arr 46 [B (decide (a < 0)), v]] ++ [IObj.arr 46 [(.bool false), (.slice none 0 0)]] = h1 at k0 k1 x1 ⊢
  simp only [fadr_pt, Nat.add_zero, OP_some]
  rw [store_at k0 (by simp) rfl rfl]
  simp only [OH_some, List.set_cons_zero]
  have k1' : (h1.set h.length (.arr 46 [B false, v]))[h.length + 1]? = some (.arr 46 [(.bool false), (.slice none 0 0)]) := by rw [List.getElem?_set_ne (by omega)]; exact k1
  rw [load2 (set_get k0)]
  simp only [OP_some]
  exact fin2z k1' (hk _ _ ((x1.set (Nat.le_refl _) _).set (by omega) _) (((hv.mono x1).setB k0 _).setB k1' _))

theorem C103 {va vb : Value} {a b : Int} {h : Heap} {K : Value → Heap → Prop} (ha : ZV h va a) (hb : ZV h vb b) (la : a.natAbs < 10000 ^ 199) (lb : b.natAbs < 10000 ^ 199)
    (hk : ∀ u h', EX h h' → MagZ h' u (Nat.gcd a.natAbs b.natAbs) → K (.agg #[B false, u]) h') : CallP Try.prog 103 [va, vb] h K := by
  have ha0 := ha
  have hb0 := hb
  obtain ⟨v, rfl, hv⟩ := ha
  obtain ⟨w, rfl, hw⟩ := hb
  refine f103 ?_
  have e1 : ∀ (g : Heap) (s : Bool) (v : Value), iBox 46 g (.agg #[B s, v]) = some (pt g.length 0, g ++ [.arr 46 [B s, v]]) := fun _ _ _ => rfl
  have e2 : ∀ g' : Heap, iAlloc 46 [(.bool false), (.slice none 0 0)] g' = some (pt g'.length 0, g' ++ [.arr 46 [(.bool false), (.slice none 0 0)]]) := fun _ => rfl
  simp only [T103, e1, e2, OH_some, List.length_append, List.length_cons, List.length_nil, Nat.zero_add]
  have k0 : (h ++ [IObj.arr 46 [B (decide (a < 0)), v]] ++ [IObj.arr 46 [B (decide (b < 0)), w]] ++ [IObj.arr 46 [(.bool false), (.slice none 0 0)]])[h.length]? = some (.arr 46 [B (decide (a < 0)), v]) := by simp
  have k1 : (h ++ [IObj.arr 46 [B (decide (a < 0)), v]] ++ [IObj.arr 46 [B (decide (b < 0)), w]] ++ [IObj.arr 46 [(.bool false), (.slice none 0 0)]])[h.length + 1]? = some (.arr 46 [B (decide (b < 0)), w]) := by simp
  have k2 : (h ++ [IObj.arr 46 [B (decide (a < 0)), v]] ++ [IObj.arr 46 [B (decide (b < 0)), w]] ++ [IObj.arr 46 [(.bool false), (.slice none 0 0)]])[h.length + 2]? = some (.arr 46 [(.bool false), (.slice none 0 0)]) := by simp
  have x1 : EX h (h ++ [IObj.arr 46 [B (decide (a < 0)), v]] ++ [IObj.arr 46 [B (decide (b < 0)), w]] ++ [IObj.arr 46 [(.bool false), (.slice none 0 0)]]) := ((EX.append _ _).push _).push _
  generalize h ++ [IObj.arr 46 [B (decide (a < 0)), v]] ++ [IObj.arr 46 [B (decide (b < 0)), w]] ++ [IObj.arr 46 [(.bool false), (.slice none 0 0)]] = h1 at k0 k1 k2 x1 ⊢
  rw [load2 k0]
  simp only [OP_some, true_and]
  refine C97 (ha0.mono x1) ?_
  intro u2 h2 x2 m2
  simp only [load2 k1, EX.load x2 (load2 k1), OP_some, true_and]
  refine C97 (hb0.mono (x1.trans x2)) ?_
  intro u3 h3 x3 m3
  have k0' := (x2.trans x3).get k0
  have k1' := (x2.trans x3).get k1
  have k2' := (x2.trans x3).get k2
  have x13 := (x1.trans x2).trans x3
  have m2 := m2.mono x3
  rw [store2 k0']
  simp only [OH_some]
  have q1 : (h3.set h.length (.arr 46 [B false, u2]))[h.length + 1]? = some (.arr 46 [B (decide (b < 0)), w]) := by rw [List.getElem?_set_ne (by omega)]; exact k1'
  rw [store2 q1]
  simp only [OH_some]
  refine loopL (σ := Nat × Nat × Value × Value × Heap) (fun _ => []) (fun p => p.2.2.2.2)
    (fun p => EX h p.2.2.2.2 ∧ p.2.2.2.2[h.length]? = some (.arr 46 [B false, p.2.2.1]) ∧ p.2.2.2.2[h.length + 1]? = some (.arr 46 [B false, p.2.2.2.1]) ∧ p.2.2.2.2[h.length + 2]? = some (.arr 46 [.bool false, .slice none 0 0]) ∧ MagZ p.2.2.2.2 p.2.2.1 p.1 ∧ MagZ p.2.2.2.2 p.2.2.2.1 p.2.1 ∧ p.1 < 10000 ^ 199 ∧ p.2.1 < 10000 ^ 199 ∧ Nat.gcd p.1 p.2.1 = Nat.gcd a.natAbs b.natAbs) (fun p => p.2.1)
    (a.natAbs, b.natAbs, u2, u3, (h3.set h.length (.arr 46 [B false, u2])).set (h.length + 1) (.arr 46 [B false, u3])) rfl rfl
    ⟨(x13.set (Nat.le_refl _) _).set (by omega) _, by rw [List.getElem?_set_ne (by omega)]; exact set_get k0', set_get q1, by rw [List.getElem?_set_ne (by omega), List.getElem?_set_ne (by omega)]; exact k2', (m2.setB k0' _).setB q1 _, (m3.setB k0' _).setB q1 _, la, lb, rfl⟩ ?_
  rintro ⟨x, y, ux, uy, g⟩ ⟨xg, j0, j1, j2, mx, my, lx, ly, hg⟩ L hL
  simp only at xg j0 j1 j2 mx my lx ly hg hL ⊢
  rw [q103z5]
  obtain ⟨l, p1, p2⟩ := my.len0
  have ld : iLoad false 1 g (pt (h.length + 1) 1) = some uy := by simp [iLoad, objCells, j1, iPart]
  simp only [fadr_pt, Nat.zero_add, ld, OP_some, p1, bin_gtr, IfP_dec]
  refine ⟨fun hgt => ?_, fun hle => ?_⟩
  · have hy : 0 < y := p2.1 (by omega)
    rw [load2 j0, OP_some, load2 j1, OP_some]
    refine C113 mx.toZ my.toZ (by omega) (by simpa using lx) (by simpa using ly) ?_
    intro r s g1 y1 zr zs
    obtain ⟨u5, rfl, hu5⟩ := id zr
    obtain ⟨u6, hs6, hu6⟩ := id zs
    have hpos : decide ((x : Int) % (y : Int) < 0) = false := decide_eq_false (by have := Int.emod_nonneg (x : Int) (show (y : Int) ≠ 0 by omega); omega)
    rw [hpos] at hs6
    subst hs6
    have hmv : ((x : Int) % (y : Int)).natAbs = x % y := by
      rw [← Int.natCast_emod, Int.natAbs_natCast]
    rw [hmv] at hu6
    have gl : h.length + 2 < g1.length := by
      have := (List.getElem?_eq_some_iff.1 j2).1
      have := y1.1
      omega
    simp only [ext_tuple, pair0, pair1, OP_some, e2, OH_some, List.length_append, List.length_cons, List.length_nil, Nat.zero_add]
    have n0 : (g1 ++ [IObj.arr 46 [(.bool false), (.slice none 0 0)]] ++ [IObj.arr 46 [(.bool false), (.slice none 0 0)]])[g1.length]? = some (.arr 46 [(.bool false), (.slice none 0 0)]) := by simp
    have n1 : (g1 ++ [IObj.arr 46 [(.bool false), (.slice none 0 0)]] ++ [IObj.arr 46 [(.bool false), (.slice none 0 0)]])[g1.length + 1]? = some (.arr 46 [(.bool false), (.slice none 0 0)]) := by simp
    have y2 : EX g1 (g1 ++ [IObj.arr 46 [(.bool false), (.slice none 0 0)]] ++ [IObj.arr 46 [(.bool false), (.slice none 0 0)]]) := (EX.append _ _).push _
    generalize g1 ++ [IObj.arr 46 [(.bool false), (.slice none 0 0)]] ++ [IObj.arr 46 [(.bool false), (.slice none 0 0)]] = g2 at n0 n1 y2 ⊢
    rw [store2 n0]
    simp only [OH_some]
    have n1' : (g2.set g1.length (.arr 46 [B (decide ((x : Int) / (y : Int) < 0)), u5]))[g1.length + 1]? = some (.arr 46 [(.bool false), (.slice none 0 0)]) := by rw [List.getElem?_set_ne (by omega)]; exact n1
    rw [store2 n1']
    simp only [OH_some]
    have y3 : EX g1 ((g2.set g1.length (.arr 46 [B (decide ((x : Int) / (y : Int) < 0)), u5])).set (g1.length + 1) (.arr 46 [B false, u6])) := (y2.set (Nat.le_refl _) _).set (by omega) _
    have n6 := set_get (o := .arr 46 [B false, u6]) n1'
    generalize (g2.set g1.length (.arr 46 [B (decide ((x : Int) / (y : Int) < 0)), u5])).set (g1.length + 1) (.arr 46 [B false, u6]) = g3 at y3 n6 ⊢
    have i0 := (y1.trans y3).get j0
    have i1 := (y1.trans y3).get j1
    have i2 := (y1.trans y3).get j2
    rw [load2 i1]
    simp only [OP_some, true_and, load2 n6]
    rw [store2 i0]
    simp only [OH_some, and_true]
    have s6 : (g3.set h.length (.arr 46 [B false, uy]))[g1.length + 1]? = some (.arr 46 [B false, u6]) := by rw [List.getElem?_set_ne (by omega)]; exact n6
    have s1 : (g3.set h.length (.arr 46 [B false, uy]))[h.length + 1]? = some (.arr 46 [B false, uy]) := by rw [List.getElem?_set_ne (by omega)]; exact i1
    refine ⟨load2 s6, ?_⟩
    rw [store2 s1]
    simp only [OH_some, true_and]
    have hlt : x % y < y := Nat.mod_lt _ hy
    refine hL (y, x % y, uy, u6, (g3.set h.length (.arr 46 [B false, uy])).set (h.length + 1) (.arr 46 [B false, u6])) ⟨(((xg.trans y1).trans y3).set (Nat.le_refl _) _).set (by omega) _, ?_, set_get s1, ?_, (((my.mono y1).mono y3).setB i0 _).setB s1 _, (((hu6.mono y3)).setB i0 _).setB s1 _, ly, by show x % y < _; omega, ?_⟩ hlt
    · show ((g3.set h.length _).set (h.length + 1) _)[h.length]? = _
      rw [List.getElem?_set_ne (by omega)]; exact set_get i0
    · show ((g3.set h.length _).set (h.length + 1) _)[h.length + 2]? = _
      rw [List.getElem?_set_ne (by omega), List.getElem?_set_ne (by omega)]; exact i2
    · show Nat.gcd y (x % y) = _
      rw [← hg, Nat.gcd_comm x y, Nat.gcd_rec y x, Nat.gcd_comm]
  · have hy : y = 0 := by
      apply Classical.byContradiction
      intro hc
      have := p2.2 (by omega)
      omega
    subst hy
    rw [q103z10, load2 j0]
    simp only [OP_some]
    rw [Nat.gcd_zero_right] at hg
    subst hg
    exact fin2z j2 (hk _ _ (xg.set (by omega) _) (mx.setB j2 _))

theorem C95 {va : Value} {a b : Int} {h : Heap} {K : Value → Heap → Prop} (ha : QZ h va a b) (hb : 0 < b) (la : a.natAbs < 10000 ^ 199) (lb : b.natAbs < 10000 ^ 199)
    (hk : ∀ r h', EX h h' → QZ h' r (a / (Nat.gcd a.natAbs b.natAbs : Int)) (b / (Nat.gcd a.natAbs b.natAbs : Int)) → K r h') : CallP Try.prog 95 [va] h K := by
  obtain ⟨u, w, rfl, hu, hw⟩ := ha
  refine f95 ?_
  have e1 : iBox 50 h (.agg #[B (decide (a < 0)), u, B (decide (b < 0)), w]) = some (pt h.length 0, h ++ [.arr 50 [B (decide (a < 0)), u, B (decide (b < 0)), w]]) := rfl
  have e2 : ∀ g' : Heap, iAlloc 46 [(.bool false), (.slice none 0 0)] g' = some (pt g'.length 0, g' ++ [.arr 46 [(.bool false), (.slice none 0 0)]]) := fun _ => rfl
  have e4 : ∀ g' : Heap, iAlloc 50 [(.bool false), (.slice none 0 0), (.bool false), (.slice none 0 0)] g' = some (pt g'.length 0, g' ++ [.arr 50 z4]) := fun _ => rfl
  simp only [T95, e1, e4, OH_some, List.length_append, List.length_cons, List.length_nil, Nat.zero_add]
  have k0 : (h ++ [IObj.arr 50 [B (decide (a < 0)), u, B (decide (b < 0)), w]] ++ [IObj.arr 50 z4])[h.length]? = some (.arr 50 [B (decide (a < 0)), u, B (decide (b < 0)), w]) := by simp
  have k1 : (h ++ [IObj.arr 50 [B (decide (a < 0)), u, B (decide (b < 0)), w]] ++ [IObj.arr 50 z4])[h.length + 1]? = some (.arr 50 z4) := by simp
  have x1 : EX h (h ++ [IObj.arr 50 [B (decide (a < 0)), u, B (decide (b < 0)), w]] ++ [IObj.arr 50 z4]) := (EX.append _ _).push _
  generalize h ++ [IObj.arr 50 [B (decide (a < 0)), u, B (decide (b < 0)), w]] ++ [IObj.arr 50 z4] = h1 at k0 k1 x1 ⊢
  have za : ZV h1 (.agg #[B (decide (a < 0)), u]) a := ⟨u, rfl, hu.mono x1⟩
  have zb : ZV h1 (.agg #[B (decide (b < 0)), w]) b := ⟨w, rfl, hw.mono x1⟩
  simp only [fadr_pt, Nat.add_zero, Nat.zero_add, load4a k0, load4b k0, OP_some]
  refine C103 za zb la lb ?_
  intro ug h2 x2 mg
  have hgpos : 0 < Nat.gcd a.natAbs b.natAbs := Nat.gcd_pos_of_pos_right _ (by omega)
  have hgle : Nat.gcd a.natAbs b.natAbs ≤ b.natAbs := Nat.le_of_dvd (by omega) (Nat.gcd_dvd_right _ _)
  generalize Nat.gcd a.natAbs b.natAbs = g at mg hgpos hgle hk
  have zg := mg.toZ
  simp only [e2, OH_some]
  rw [store2 get_last]
  simp only [OH_some]
  have x3 : EX h2 ((h2 ++ [IObj.arr 46 [(.bool false), (.slice none 0 0)]]).set h2.length (.arr 46 [B false, ug])) := EX.set (EX.append _ _) (Nat.le_refl _) _
  have k3 : ((h2 ++ [IObj.arr 46 [(.bool false), (.slice none 0 0)]]).set h2.length (.arr 46 [B false, ug]))[h2.length]? = some (.arr 46 [B false, ug]) := set_get get_last
  generalize (h2 ++ [IObj.arr 46 [(.bool false), (.slice none 0 0)]]).set h2.length (.arr 46 [B false, ug]) = h3 at x3 k3 ⊢
  have x13 := x2.trans x3
  simp only [EX.load x13 (load4a k0), load2 k3, OP_some]
  have lg : ((g : Nat) : Int).natAbs < 10000 ^ 199 := by rw [Int.natAbs_natCast]; omega
  refine C113 (za.mono x13) (zg.mono x3) (by omega) la lg ?_
  intro r s h4 x4 zr zs
  obtain ⟨ur, rfl, hur⟩ := id zr
  obtain ⟨us, rfl, hus⟩ := id zs
  simp only [ext_tuple, pair0, pair1, OP_some, e2, OH_some, List.length_append, List.length_cons, List.length_nil, Nat.zero_add]
  have n0 : (h4 ++ [IObj.arr 46 [(.bool false), (.slice none 0 0)]] ++ [IObj.arr 46 [(.bool false), (.slice none 0 0)]])[h4.length]? = some (.arr 46 [(.bool false), (.slice none 0 0)]) := by simp
  have n1 : (h4 ++ [IObj.arr 46 [(.bool false), (.slice none 0 0)]] ++ [IObj.arr 46 [(.bool false), (.slice none 0 0)]])[h4.length + 1]? = some (.arr 46 [(.bool false), (.slice none 0 0)]) := by simp
  have y2 : EX h4 (h4 ++ [IObj.arr 46 [(.bool false), (.slice none 0 0)]] ++ [IObj.arr 46 [(.bool false), (.slice none 0 0)]]) := (EX.append _ _).push _
  generalize h4 ++ [IObj.arr 46 [(.bool false), (.slice none 0 0)]] ++ [IObj.arr 46 [(.bool false), (.slice none 0 0)]] = h5 at n0 n1 y2 ⊢
  rw [store2 n0]
  simp only [OH_some]
  have n1' : (h5.set h4.length (.arr 46 [B (decide (a / (g : Int) < 0)), ur]))[h4.length + 1]? = some (.arr 46 [(.bool false), (.slice none 0 0)]) := by rw [List.getElem?_set_ne (by omega)]; exact n1
  rw [store2 n1']
  simp only [OH_some]
  have y3 : EX h4 ((h5.set h4.length (.arr 46 [B (decide (a / (g : Int) < 0)), ur])).set (h4.length + 1) (.arr 46 [B (decide (a % (g : Int) < 0)), us])) := (y2.set (Nat.le_refl _) _).set (by omega) _
  have n0' : ((h5.set h4.length (.arr 46 [B (decide (a / (g : Int) < 0)), ur])).set (h4.length + 1) (.arr 46 [B (decide (a % (g : Int) < 0)), us]))[h4.length]? = some (.arr 46 [B (decide (a / (g : Int) < 0)), ur]) := by rw [List.getElem?_set_ne (by omega)]; exact set_get n0
  generalize (h5.set h4.length (.arr 46 [B (decide (a / (g : Int) < 0)), ur])).set (h4.length + 1) (.arr 46 [B (decide (a % (g : Int) < 0)), us]) = h6 at y3 n0' ⊢
  have x16 := (x13.trans x4).trans y3
  have x36 := x4.trans y3
  simp only [EX.load x16 (load4b k0), EX.load x36 (load2 k3), OP_some]
  refine C113 (zb.mono x16) (zg.mono (x3.trans x36)) (by omega) lb lg ?_
  intro r' s' h7 x7 zr' zs'
  obtain ⟨ur', rfl, hur'⟩ := id zr'
  obtain ⟨us', rfl, hus'⟩ := id zs'
  simp only [ext_tuple, pair0, pair1, OP_some, e2, OH_some, List.length_append, List.length_cons, List.length_nil, Nat.zero_add]
  have m0 : (h7 ++ [IObj.arr 46 [(.bool false), (.slice none 0 0)]] ++ [IObj.arr 46 [(.bool false), (.slice none 0 0)]])[h7.length]? = some (.arr 46 [(.bool false), (.slice none 0 0)]) := by simp
  have m1 : (h7 ++ [IObj.arr 46 [(.bool false), (.slice none 0 0)]] ++ [IObj.arr 46 [(.bool false), (.slice none 0 0)]])[h7.length + 1]? = some (.arr 46 [(.bool false), (.slice none 0 0)]) := by simp
  have w2 : EX h7 (h7 ++ [IObj.arr 46 [(.bool false), (.slice none 0 0)]] ++ [IObj.arr 46 [(.bool false), (.slice none 0 0)]]) := (EX.append _ _).push _
  generalize h7 ++ [IObj.arr 46 [(.bool false), (.slice none 0 0)]] ++ [IObj.arr 46 [(.bool false), (.slice none 0 0)]] = h8 at m0 m1 w2 ⊢
  rw [store2 m0]
  simp only [OH_some]
  have m1' : (h8.set h7.length (.arr 46 [B (decide (b / (g : Int) < 0)), ur']))[h7.length + 1]? = some (.arr 46 [(.bool false), (.slice none 0 0)]) := by rw [List.getElem?_set_ne (by omega)]; exact m1
  rw [store2 m1']
  simp only [OH_some]
  have w3 : EX h7 ((h8.set h7.length (.arr 46 [B (decide (b / (g : Int) < 0)), ur'])).set (h7.length + 1) (.arr 46 [B (decide (b % (g : Int) < 0)), us'])) := (w2.set (Nat.le_refl _) _).set (by omega) _
  have m0' : ((h8.set h7.length (.arr 46 [B (decide (b / (g : Int) < 0)), ur'])).set (h7.length + 1) (.arr 46 [B (decide (b % (g : Int) < 0)), us']))[h7.length]? = some (.arr 46 [B (decide (b / (g : Int) < 0)), ur']) := by rw [List.getElem?_set_ne (by omega)]; exact set_get m0
  generalize (h8.set h7.length (.arr 46 [B (decide (b / (g : Int) < 0)), ur'])).set (h7.length + 1) (.arr 46 [B (decide (b % (g : Int) < 0)), us']) = h9 at w3 m0' ⊢
  have x69 := x7.trans w3
  rw [EX.load x69 (load2 n0'), OP_some, load2 m0', OP_some]
  exact endQ (zr.mono (y3.trans x69)) (zr'.mono w3) (x1.trans (x16.trans x69)) (by omega) ((x16.trans x69).get k1) hk

theorem decS_unique {s : List UInt8} {n : Nat} (hd : digs s) (hv : valB s = n) (hn : 0 < n) (hh : s.head? ≠ some 48) : s = decS n := by
  have e1 : ((s.reverse.map fun c : UInt8 => c.toNat - 48).map dch).reverse = s := by
    rw [List.map_map]
    have : s.reverse.map (dch ∘ fun c : UInt8 => c.toNat - 48) = s.reverse := by
      conv => rhs; rw [← List.map_id s.reverse]
      apply List.map_congr_left
      intro c hc
      have h1 := hd c (by simpa using hc)
      apply UInt8.toNat_inj.1
      simp only [Function.comp, id]
      rw [dch_toNat (by omega)]
      omega
    rw [this, List.reverse_reverse]
  have hlim : Lim 10 (s.reverse.map fun c : UInt8 => c.toNat - 48) := by
    intro x hx
    obtain ⟨c, hc, rfl⟩ := List.mem_map.1 hx
    have h1 := hd c (by simpa using hc)
    omega
  have hval : val 10 (s.reverse.map fun c : UInt8 => c.toNat - 48) = n := by
    rw [← valB_rev hlim, e1, hv]
  have hcan : Canon 10 (s.reverse.map fun c : UInt8 => c.toNat - 48) := by
    refine ⟨hlim, ?_⟩
    rw [List.getLast?_map, List.getLast?_reverse]
    intro hc
    cases hs : s.head? with
    | none => rw [hs] at hc; cases hc
    | some c =>
      rw [hs] at hc
      have hc' : c.toNat - 48 = 0 := by simpa using hc
      have hmem : c ∈ s := List.mem_of_mem_head? hs
      have h1 := hd c hmem
      apply hh
      rw [hs]
      congr 1
      apply UInt8.toNat_inj.1
      show c.toNat = 48
      omega
  obtain ⟨d1, d2⟩ := dig10_canon n
  have := Canon.unique (by decide) hcan d1 (by rw [hval, d2])
  unfold decS
  rw [if_neg (by omega), ← this, e1]

end Go.Proofs.Ytjdlcokhlphmhaa

/-
  The document's numbers as texts.
-/
namespace Go.Proofs.Ytjdlcokhlphmhaa
open Go.Sim

/-- Four digits. -/
def four (d : Nat) : List UInt8 := [dch (d / 1000), dch (d / 100 % 10), dch (d / 10 % 10), dch (d % 10)]

theorem four_digs {d : Nat} (hd : d < 10000) : digs (four d) ∧ valB (four d) = d := by
  have h1 := dch_toNat (d := d / 1000) (by omega)
  have h2 := dch_toNat (d := d / 100 % 10) (by omega)
  have h3 := dch_toNat (d := d / 10 % 10) (by omega)
  have h4 := dch_toNat (d := d % 10) (by omega)
  constructor
  · intro c hc
    simp only [four, List.mem_cons, List.not_mem_nil, or_false] at hc
    rcases hc with rfl | rfl | rfl | rfl <;> omega
  · simp only [four, valB_cons, h1, h2, h3, h4, List.length_cons, List.length_nil]
    simp only [valB, List.foldl_nil]
    omega

theorem C96 {va : Value} {n : Nat} {h : Heap} {K : Value → Heap → Prop} (ha : ZV h va n) (hn : n < bigW) (hk : ∀ h', EX h h' → K (S (decS n)) h') : CallP Try.prog 96 [va] h K := by
  obtain ⟨v, rfl, hv⟩ := ha
  rw [Int.natAbs_natCast] at hv
  refine f96 ?_
  have e1 : iBox 46 h (.agg #[B (decide ((n : Int) < 0)), v]) = some (pt h.length 0, h ++ [.arr 46 [B (decide ((n : Int) < 0)), v]]) := rfl
  simp only [T96, e1, OH_some]
  have x1 : EX h (h ++ [IObj.arr 46 [B (decide ((n : Int) < 0)), v]]) := EX.append _ _
  have ld : iLoad false 1 (h ++ [IObj.arr 46 [B (decide ((n : Int) < 0)), v]]) (pt h.length 1) = some v := load_last rfl
  generalize h ++ [IObj.arr 46 [B (decide ((n : Int) < 0)), v]] = h1 at x1 ld ⊢
  obtain ⟨xs, dx, cx, vx⟩ := hv.mono x1
  have lx := canZ_len cx (by rw [vx]; exact hn)
  simp only [fadr_pt, Nat.zero_add, ld, OP_some, dx.len, bin_eql, IfP_dec]
  refine ⟨fun h0 => ?_, fun hne => ?_⟩
  · have : xs = [] := List.length_eq_zero_iff.1 (by omega)
    subst this
    have hn0 : n = 0 := vx.symm
    subst hn0
    exact hk _ x1
  · have hx0 : 0 < xs.length := by omega
    have hnpos : 0 < n := by
      apply Classical.byContradiction
      intro hc
      have := Canon.zero (by decide) cx (by omega)
      rw [this] at hx0
      simp at hx0
    have e2 : IntKind.wrap .i64 ((xs.length : Int) - 1) = (xs.length : Int) - 1 := wrap64 (by omega) (by omega)
    simp only [bin_sub, e2, OP_some]
    refine loopL (σ := Nat × List UInt8 × Heap) (fun p => [S p.2.1, I ((p.1 : Int) - 1)]) (fun p => p.2.2)
      (fun p => p.1 ≤ xs.length ∧ EX h1 p.2.2 ∧ digs p.2.1 ∧ valB p.2.1 = val 10000 (xs.drop p.1) ∧ p.2.1.length = 4 * (xs.length - p.1)) (fun p => p.1)
      (xs.length, [], h1) rfl rfl ⟨Nat.le_refl _, EX.refl _, fun c hc => by simp at hc, by simp [valB, val], by simp⟩ ?_
    rintro ⟨i, s, g⟩ ⟨hi, xg, hd, hvs, hsl⟩ L hL
    simp only at hi xg hd hvs hsl hL ⊢
    rw [q96z9]
    simp only [bin_geq, OP_some, IfP_dec]
    refine ⟨fun hge => ?_, fun hlt => ?_⟩
    · obtain ⟨j, rfl⟩ : ∃ j, i = j + 1 := ⟨i - 1, by omega⟩
      have ej : ((j + 1 : Nat) : Int) - 1 = (j : Int) := by omega
      have hjx : j < xs.length := by omega
      obtain ⟨ia, a1, a2⟩ := (dx.mono xg).get hjx
      have hd4 : xs[j] < 10000 := cx.1 _ (List.getElem_mem hjx)
      have hvd := val_drop 10000 xs hjx
      rw [ej]
      generalize hdd : xs[j] = d at a2 hd4 hvd
      simp only [fadr_pt, Nat.zero_add, EX.load xg ld, OP_some, a1, a2]
      rw [show (.int .i64 1000 : Value) = .int .i64 ((1000 : Nat) : Int) from rfl, show (.int .i64 100 : Value) = .int .i64 ((100 : Nat) : Int) from rfl, show (.int .i64 10 : Value) = .int .i64 ((10 : Nat) : Int) from rfl]
      rw [quoI (by decide) (by omega), quoI (b := 100) (by decide) (by omega), quoI (b := 10) (by decide) (by omega)]
      simp only [OP_some]
      rw [rem_nat _ _ _ (by decide), rem_nat _ _ _ (by decide), rem_nat _ _ _ (by decide)]
      have w : ∀ q : Nat, q < 10 → IntKind.wrap .i64 (48 + (q : Int)) = ((48 + q : Nat) : Int) := fun q hq => by rw [wrap64 (by omega) (by omega)]; omega
      have w8 : ∀ q : Nat, q < 10 → IntKind.wrap .u8 ((48 + q : Nat) : Int) = ((48 + q : Nat) : Int) := fun q hq => wrapU8 (by omega) (by omega)
      simp only [OP_some, bin_add, conv_int, w _ (show d / 1000 < 10 by omega), w8 _ (show d / 1000 < 10 by omega), w _ (show d / 100 % 10 < 10 by omega), w8 _ (show d / 100 % 10 < 10 by omega), w _ (show d / 10 % 10 < 10 by omega), w8 _ (show d / 10 % 10 < 10 by omega), w _ (show d % 10 < 10 by omega), w8 _ (show d % 10 < 10 by omega)]
      rw [cvd (show d / 1000 < 10 by omega), cvd (show d / 100 % 10 < 10 by omega), cvd (show d / 10 % 10 < 10 by omega), cvd (show d % 10 < 10 by omega)]
      have mk : iMkSl 5 4 [.int .u8 0] g [(0, 1, cv (dch (d / 1000))), (1, 1, cv (dch (d / 100 % 10))), (2, 1, cv (dch (d / 10 % 10))), (3, 1, cv (dch (d % 10)))] = some (sl 5 g.length 0 4, g ++ [.arr 5 ((four d).map cv)]) := rfl
      have yg : EX g (g ++ [IObj.arr 5 ((four d).map cv)]) := EX.append _ _
      have bs : iB2s (g ++ [IObj.arr 5 ((four d).map cv)]) (sl 5 g.length 0 4) = some (S (four d)) := b2s (b := g.length) (e := 5) (.inr ⟨g.length, Nat.le_refl _, rfl, get_last⟩)
      obtain ⟨f1, f2⟩ := four_digs hd4
      have f3 : (four d).length = 4 := rfl
      simp only [mk, OH_some, bs, OP_some]
      rw [bin_addS s (four d) (by rw [f3]; unfold maxLen; omega)]
      have ej2 : IntKind.wrap .i64 ((j : Int) - 1) = (j : Int) - 1 := wrap64 (by omega) (by omega)
      simp only [OP_some, bin_sub, ej2, true_and]
      refine hL (j, s ++ four d, g ++ [IObj.arr 5 ((four d).map cv)]) ⟨by show j ≤ xs.length; omega, xg.trans yg, fun c hc => (List.mem_append.1 hc).elim (hd c) (f1 c), ?_, by show (s ++ four d).length = _; rw [List.length_append, f3]; omega⟩ (by show j < j + 1; omega)
      show valB (s ++ four d) = val 10000 (xs.drop j)
      rw [valB_append, f2, f3, hvd, hvs]
      omega
    · have hi0 : i = 0 := by omega
      subst hi0
      simp only [List.drop_zero, vx] at hvs
      rw [q96z16]
      refine loopL (σ := List UInt8) (fun s => [S s]) (fun _ => g) (fun s => digs s ∧ valB s = n ∧ s.length ≤ 1000) (fun s => s.length) s rfl rfl ⟨hd, hvs, by omega⟩ ?_
      rintro t ⟨td, tv, tl⟩ L2 hL2
      rw [q96z19]
      cases t with
      | nil => simp [valB] at tv; omega
      | cons c t =>
        have ix := idxS_S (a := c :: t) (i := 0) (by simp) .i64
        have ix' : iIdxS (S (c :: t)) (.int .i64 0) = some (cv c) := ix
        have eq : iBin .eql (cv c) (.int .u8 48) = some (B (decide ((c.toNat : Int) = 48))) := rfl
        simp only [ix', OP_some, eq, IfP_dec]
        refine ⟨fun h48 => ?_, fun h48 => ?_⟩
        · have sl1 := slS_lo (a := c :: t) (n := 1) (by simp) .i64
          have sl2 : iSlS (S (c :: t)) (some (.int .i64 1)) none = some (S t) := sl1
          simp only [sl2, OP_some, true_and]
          refine hL2 t ⟨fun x hx => td x (by simp [hx]), ?_, by simp at tl; omega⟩ (by simp)
          rw [valB_cons] at tv
          have : c.toNat - 48 = 0 := by omega
          rw [this] at tv
          omega
        · rw [q96z23]
          have := decS_unique td tv hnpos (by
            simp only [List.head?_cons, ne_eq, Option.some.injEq]
            rintro rfl
            exact h48 rfl)
          rw [this]
          exact hk _ (x1.trans xg)

theorem C72 {va : Value} {a : Int} {h : Heap} {K : Value → Heap → Prop} (ha : QZ h va a 1) (la : a.natAbs < 10000 ^ 199) (hk : ∀ h', EX h h' → K (.tuple #[S (numS a), B true]) h') : CallP Try.prog 72 [va] h K := by
  have ha0 := ha
  obtain ⟨u, w, rfl, hu, hw⟩ := ha
  refine f72 ?_
  have e1 : iBox 50 h (.agg #[B (decide (a < 0)), u, B (decide ((1 : Int) < 0)), w]) = some (pt h.length 0, h ++ [.arr 50 [B (decide (a < 0)), u, B (decide ((1 : Int) < 0)), w]]) := rfl
  simp only [T72, e1, OH_some]
  have x1 : EX h (h ++ [IObj.arr 50 [B (decide (a < 0)), u, B (decide ((1 : Int) < 0)), w]]) := EX.append _ _
  have k1 : (h ++ [IObj.arr 50 [B (decide (a < 0)), u, B (decide ((1 : Int) < 0)), w]])[h.length]? = some (.arr 50 [B (decide (a < 0)), u, B (decide ((1 : Int) < 0)), w]) := get_last
  generalize h ++ [IObj.arr 50 [B (decide (a < 0)), u, B (decide ((1 : Int) < 0)), w]] = h1 at x1 k1 ⊢
  rw [load4 k1]
  simp only [OP_some]
  refine C95 (ha0.mono x1) (by decide) la (by decide +kernel) ?_
  intro r h2 x2 q2
  have e2 : Nat.gcd a.natAbs (1 : Int).natAbs = 1 := Nat.gcd_one_right _
  rw [e2] at q2
  have e3 : a / ((1 : Nat) : Int) = a := Int.ediv_one a
  have e4 : (1 : Int) / ((1 : Nat) : Int) = 1 := rfl
  rw [e3, e4] at q2
  have q2' := q2
  obtain ⟨u', w', rfl, hu', hw'⟩ := q2
  have k2 := x2.get k1
  rw [store4 k2]
  simp only [OH_some]
  have x3 : EX h (h2.set h.length (.arr 50 [B (decide (a < 0)), u', B (decide ((1 : Int) < 0)), w'])) := (x1.trans x2).set (Nat.le_refl _) _
  have k3 := set_get (o := .arr 50 [B (decide (a < 0)), u', B (decide ((1 : Int) < 0)), w']) k2
  have hu3 := hu'.setB k2 (.arr 50 [B (decide (a < 0)), u', B (decide ((1 : Int) < 0)), w'])
  have hw3 := hw'.setB k2 (.arr 50 [B (decide (a < 0)), u', B (decide ((1 : Int) < 0)), w'])
  generalize h2.set h.length (.arr 50 [B (decide (a < 0)), u', B (decide ((1 : Int) < 0)), w']) = h3 at x3 k3 hu3 hw3 ⊢
  have hb := big201 (n := a.natAbs) (by
    have : (10000 : Nat) ^ 199 < 10000 ^ 201 := by decide +kernel
    omega)
  simp only [fadr_pt, Nat.add_zero, Nat.zero_add, load4a k3, OP_some, true_and]
  refine C97 (⟨u', rfl, hu3⟩ : ZV h3 _ a) ?_
  intro ua h4 x4 m4
  refine C96 m4.toZ hb ?_
  intro h5 x5
  have ld0 : ∀ {g}, EX h3 g → iLoad false 1 g (pt h.length 0) = some (B (decide (a < 0))) := fun y => EX.load y (by simp [iLoad, objCells, k3, iPart])
  simp only [load4b k3, EX.load x4 (load4b k3), EX.load (x4.trans x5) (load4b k3), OP_some, true_and]
  have hw5 : MagZ h5 w' 1 := (hw3.mono x4).mono x5
  refine C96 (n := 1) (⟨w', rfl, hw5⟩ : ZV h5 _ ((1 : Nat) : Int)) (lt_bigW (by decide +kernel)) ?_
  intro h6 x6
  obtain ⟨d1, d2, d3, d4, d5⟩ := decS_facts hb
  have one : decS 1 = [49] := by decide +kernel
  have xx := (x4.trans x5).trans x6
  simp only [lenS_S, OP_some, bin_gtr, decide_eq_false (show ¬ ((decS a.natAbs).length : Int) > 4000 by omega), q72z7, GdP_ff, one, List.length_singleton]
  rw [decide_eq_false (show ¬ (4000 : Int) < ((1 : Nat) : Int) by decide)]
  simp only [q72z9, iPick_f, OP_some, IfP_false, fadr_pt, Nat.add_zero, ld0 xx]
  have fin : p72z13 Try.prog K (S (numS a)) (S [49]) h6 := by
    rw [q72z13]
    have : iBin .neq (S [49]) (.string ⟨#[49]⟩) = some (B false) := by
      show iBin .neq (S [49]) (S [49]) = _
      rw [bin_neqS]; simp
    simp only [this, OP_some, IfP_false, q72z16]
    exact hk _ (x3.trans xx)
  by_cases hneg : a < 0
  · have hs : numS a = 45 :: decS a.natAbs := by unfold numS; rw [if_pos hneg]
    have ad : iBin .add (.string ⟨#[45]⟩) (S (decS a.natAbs)) = some (S (numS a)) := by
      rw [hs]
      exact bin_addS (a := [45]) (b := decS a.natAbs) (by simp [maxLen]; omega)
    rw [decide_eq_true hneg]
    simp only [IfP_true, ad, OP_some]
    exact fin
  · have hs : numS a = decS a.natAbs := by unfold numS; rw [if_neg hneg]
    rw [decide_eq_false hneg, ← hs]
    simp only [IfP_false]
    exact fin

theorem C27 {va : Value} {a : Int} {s : List UInt8} {h : Heap} {K : Value → Heap → Prop} (ha : QZ h va a 1) (la : a.natAbs < 10000 ^ 199) (hk : ∀ h', EX h h' → K (B (decide (s = numS a))) h') : CallP Try.prog 27 [S s, va] h K := by
  have ha0 := ha
  obtain ⟨u, w, rfl, hu, hw⟩ := ha
  refine f27 ?_
  have e1 : iBox 50 h (.agg #[B (decide (a < 0)), u, B (decide ((1 : Int) < 0)), w]) = some (pt h.length 0, h ++ [.arr 50 [B (decide (a < 0)), u, B (decide ((1 : Int) < 0)), w]]) := rfl
  simp only [T27, e1, OH_some]
  have x1 : EX h (h ++ [IObj.arr 50 [B (decide (a < 0)), u, B (decide ((1 : Int) < 0)), w]]) := EX.append _ _
  rw [load4 get_last]
  simp only [OP_some]
  refine C72 (ha0.mono x1) la ?_
  intro h2 x2
  simp only [ext_tuple, pair0, pair1, OP_some, q27z5, GdP_tt, bin_eqlS, q27z7, iPick_t]
  exact hk _ (x1.trans x2)

end Go.Proofs.Ytjdlcokhlphmhaa
