/-
  Part 7 of the texts behind a statement of this seat: HCt45, HCt46, HMk24, HCt41, HNB, Rd2, Rd4, Rd6, HZq1, HZq2, HZq3, HZR3, HNC, Rd3, Kr3, HNA, Ln1, Kr4.
-/
import Derived.Test.YthplaillblmgfaaGreatDoorProg
import Derived.KernelRfl
import Derived.Test.YthplaillblmgfaaGreatDoorKr6
namespace Go.Proofs.YthplaillblmgfaaGreatDoor
open Go.Sim

theorem buildM {e : TypeId} {k : IntKind} {h : Heap} {v : Value} {xs : List Nat} (d : DS e k h v xs) : iBuild [(.bool false), (.slice none 0 0)] [(1, 1, v)] = some (.agg #[B false, v]) := by
  rcases d with ⟨rfl, _⟩ | ⟨i, rfl, _⟩ <;> rfl

theorem fldM (b : Bool) (v : Value) : iFld false 1 1 (.agg #[B b, v]) = some v := rfl

theorem big201 {n : Nat} (h : n < 10000 ^ 201) : n < bigW := by
  refine Nat.lt_of_lt_of_le h ?_
  unfold bigW
  decide +kernel

theorem MagZ.toZ {h : Heap} {v : Value} {n : Nat} (p : MagZ h v n) : ZV h (.agg #[B false, v]) (n : Int) := ⟨v, by rw [decide_eq_false (by omega)], by simpa using p⟩

theorem C125 {v : Value} {n d : Nat} {h : Heap} {K : Value → Heap → Prop} (hv : MagZ h v n) (hn : n < 10000 ^ 200) (hd : d ≤ 10000) (hk : ∀ r h', EX h h' → MagZ h' r (n * d) → K r h') : CallP Tryz.prog 125 [v, I d] h K := by
  have hnb : n < bigW := big201 (by
    have : (10000 : Nat) ^ 201 = 10000 ^ 200 * 10000 := by decide +kernel
    omega)
  have hprod : n * d < bigW := by
    refine big201 ?_
    have h1 : n * d ≤ n * 10000 := Nat.mul_le_mul_left _ hd
    have : (10000 : Nat) ^ 201 = 10000 ^ 200 * 10000 := by decide +kernel
    omega
  refine f125 ?_
  obtain ⟨xs, dx, cx⟩ := id hv
  simp only [T125, buildM dx, OP_some]
  refine C22 (z := d) (by omega) ?_
  intro r1 h1 x1 z1
  refine C53 (hv.toZ.mono x1) z1 (by simpa using hnb) (by have := big201 (n := 10000) (by decide +kernel); simp; omega) ?_
  intro r2 h2 x2 z2
  obtain ⟨u, rfl, hu⟩ := z2
  have e1 : ((n : Int) * (d : Int)).natAbs = n * d := by rw [Int.natAbs_mul]; simp
  rw [e1] at hu
  have e2 : decide ((n : Int) * (d : Int) < 0) = false := decide_eq_false (by have : (n : Int) * (d : Int) = ((n * d : Nat) : Int) := by simp
                                                                              omega)
  rw [e2]
  obtain ⟨ys, dy, cy, vy⟩ := hu
  have ly := canZ_len cy (by rw [vy]; exact hprod)
  refine C95 dy cy.1 (by omega) ?_
  intro r3 h3 x3 z3
  simp only [Bool.false_eq_true, if_false, vy] at z3
  obtain ⟨w, rfl, hw⟩ := z3
  rw [fldM]
  rw [Int.natAbs_natCast] at hw
  exact OP_some.2 (hk _ _ ((x1.trans x2).trans x3) hw)

theorem MagZ.keepI {h h' : Heap} {n i m : Nat} (p : MagZ h (sl 3 i 0 m) n) (hi : h'[i]? = h[i]?) : MagZ h' (sl 3 i 0 m) n := by
  obtain ⟨xs, d, c, v⟩ := p
  refine ⟨xs, ?_, c, v⟩
  rcases d with ⟨h1, h2⟩ | ⟨j, h1, h2⟩
  · cases h1
  · obtain ⟨rfl, rfl⟩ := sl_inj h1
    refine .inr ⟨i, rfl, h2.imp id ?_⟩
    rintro ⟨r, hr⟩
    refine ⟨r, ?_⟩
    unfold objCells at hr ⊢
    rw [hi]; exact hr

theorem consD {h : Heap} {v : Value} {ys : List Nat} {d : Nat} {K : Value → Heap → Prop} (p : DS 3 .i64 h v ys) (hl : ys.length ≤ 1000) (hk : ∀ r h', EX h h' → DS 3 .i64 h' r (d :: ys) → K r h') :
    OH (iMkSl 3 1 [.int .i64 0] h [(0, 1, I d)]) fun a h1 => OH (iApp 3 1 8 h1 a v) K := by
  have e1 : iMkSl 3 1 [.int .i64 0] h [(0, 1, I d)] = some (sl 3 h.length 0 1, h ++ [.arr 3 [I d]]) := rfl
  rw [e1]
  simp only [OH_some]
  obtain ⟨c1, c2⟩ := (p.mono (EX.append h [.arr 3 [I d]])).cells
  by_cases hn0 : ys.length = 0
  · have : ys = [] := List.length_eq_zero_iff.1 hn0
    subst this
    have e2 : iApp 3 1 8 (h ++ [.arr 3 [I d]]) (sl 3 h.length 0 1) v = some (sl 3 h.length 0 1, h ++ [.arr 3 [I d]]) := by
      simp [iApp, c1, c2, sl, maxLen]
    rw [e2]
    simp only [OH_some]
    exact hk _ _ (EX.append _ _) (.inr ⟨h.length, rfl, .inr ⟨[], by simp [objCells]⟩⟩)
  · have hg : (h ++ [IObj.arr 3 [I d]])[h.length]? = some (.arr 3 [I d]) := get_last
    have e2 : iApp 3 1 8 (h ++ [.arr 3 [I d]]) (sl 3 h.length 0 1) v = some (sl 3 (h.length + 1) 0 (1 + ys.length), (h ++ [IObj.arr 3 [I d]]).set h.length .dead ++ [.arr 3 ([I d] ++ ys.map fun d : Nat => I d)]) := by
      simp only [iApp, c1, c2]
      simp only [sl, hg]
      rw [if_pos ⟨trivial, trivial, by simp, by omega, by unfold maxLen; omega⟩, if_neg hn0]
      simp
    rw [e2]
    simp only [OH_some]
    refine hk _ _ (((EX.append _ _).set (Nat.le_refl _) _).push _) (.inr ⟨h.length + 1, by rw [List.length_cons, Nat.add_comm 1], .inr ⟨[], ?_⟩⟩)
    unfold objCells
    rw [List.getElem?_append_right (by simp)]
    simp

theorem val_drop (B : Nat) (xs : List Nat) {i : Nat} (hi : i < xs.length) : val B (xs.drop i) = xs[i] + B * val B (xs.drop (i + 1)) := by
  rw [List.drop_eq_getElem_cons hi]; rfl

theorem sgn_le {a b : Nat} : sgn a b ≤ 0 ↔ a ≤ b := by
  unfold sgn
  split
  · constructor <;> omega
  · split <;> constructor <;> omega

theorem C106 {va vb : Value} {a b : Int} {h : Heap} {K : Value → Heap → Prop} (ha : ZV h va a) (hb : ZV h vb b) (hb0 : 0 < b) (la : a.natAbs < 10000 ^ 199) (lb : b.natAbs < 10000 ^ 199)
    (hk : ∀ r s h', EX h h' → ZV h' r (a / b) → ZV h' s (a % b) → K (.tuple #[r, s]) h') : CallP Tryz.prog 106 [va, vb] h K := by
  obtain ⟨v, rfl, hv⟩ := ha
  obtain ⟨w, rfl, hw⟩ := hb
  have hp200 : (10000 : Nat) ^ 200 = 10000 ^ 199 * 10000 := by decide +kernel
  have hp201 : (10000 : Nat) ^ 201 = 10000 ^ 200 * 10000 := by decide +kernel
  refine f106 ?_
  unfold T106
  refine box2z ?_
  intro h3 x
  obtain ⟨B, hBb⟩ : ∃ B : Nat, b = B := ⟨b.toNat, by omega⟩
  subst hBb
  have hB0 : 0 < B := by omega
  have hBl : B < 10000 ^ 199 := by simpa using lb
  obtain ⟨xs, dx, cx, ex⟩ := hv.mono x.ex
  have l1 := canZ_len cx (by rw [ex]; exact big201 (by omega))
  have hwB : MagZ h3 w B := by have := hw.mono x.ex; simpa using this
  have e2 : iAlloc 36 [(.bool false), (.slice none 0 0)] h3 = some (pt h3.length 0, h3 ++ [.arr 36 [(.bool false), (.slice none 0 0)]]) := rfl
  simp only [e2, OH_some, fadr_pt, Nat.add_zero, Nat.zero_add]
  have x4 : EX h3 (h3 ++ [.arr 36 [(.bool false), (.slice none 0 0)]]) := EX.append _ _
  have g5 : (h3 ++ [IObj.arr 36 [(.bool false), (.slice none 0 0)]])[h3.length]? = some (.arr 36 [(.bool false), (.slice none 0 0)]) := get_last
  have hl3 : h.length + 2 < h3.length := (List.getElem?_eq_some_iff.1 x.out).1
  generalize hh4 : h3 ++ [IObj.arr 36 [(.bool false), (.slice none 0 0)]] = h4 at x4 g5 ⊢
  have hl4 : h4.length = h3.length + 1 := by rw [← hh4]; simp
  clear hh4
  have dx4 := dx.mono x4
  simp only [EX.load x4 x.a1, OP_some, dx4.len, make_hz (show xs.length ≤ 1000 by omega), OH_some, EX.load (x4.trans (hz_EX h4 _)) x.a1, mkD0]
  have e6 : IntKind.wrap .i64 ((xs.length : Int) - 1) = (xs.length : Int) - 1 := wrap64 (by omega) (by omega)
  have x6 : EX h4 (hz h4 (List.replicate xs.length 0) ++ [.arr 3 []]) := (hz_EX h4 _).push _
  simp only [EX.load (x4.trans x6) x.a1, OP_some, dx4.len, bin_sub, e6]
  have hq0 : (hz h4 (List.replicate xs.length 0) ++ [IObj.arr 3 []])[h4.length]? = some (.arr 3 ((List.replicate xs.length 0).map fun d : Nat => I d)) := by
    rw [List.getElem?_append_left (by simp [hz])]; exact hz_get _ _
  have hr0 : MagZ (hz h4 (List.replicate xs.length 0) ++ [IObj.arr 3 []]) (sl 3 (hz h4 (List.replicate xs.length 0)).length 0 0) 0 := ⟨[], .inr ⟨_, rfl, .inl rfl⟩, Canon.nil _, rfl⟩
  refine loopL (σ := Nat × Nat × Value × List Nat × Heap) (fun p => [p.2.2.1, I ((p.1 : Int) - 1)]) (fun p => p.2.2.2.2)
    (fun p => p.1 ≤ xs.length ∧ EX h4 p.2.2.2.2 ∧ p.2.2.2.2[h4.length]? = some (.arr 3 (p.2.2.2.1.map fun d : Nat => I d)) ∧ p.2.2.2.1.length = xs.length ∧ Lim 10000 p.2.2.2.1 ∧ MagZ p.2.2.2.2 p.2.2.1 p.2.1 ∧ p.2.1 < B ∧ val 10000 (p.2.2.2.1.drop p.1) * B + p.2.1 = val 10000 (xs.drop p.1)) (fun p => p.1)
    (xs.length, 0, _, List.replicate xs.length 0, _) rfl rfl ⟨Nat.le_refl _, x6, hq0, by simp, Lim.zeros (by decide) _, hr0, hB0, by simp [val]⟩ ?_
  rintro ⟨i, R, rv, qs, g⟩ ⟨hi, xg, hq, hql, hqlim, hR, hRB, hval⟩ L hL
  simp only at hi xg hq hql hqlim hR hRB hval hL ⊢
  have ldA : ∀ {g'}, EX h4 g' → iLoad false 1 g' (pt h.length 1) = some v := fun y => EX.load (x4.trans y) x.a1
  have ldB : ∀ {g'}, EX h4 g' → iLoad false 1 g' (pt (h.length + 1) 1) = some w := fun y => EX.load (x4.trans y) x.b1
  rw [q106z6]
  simp only [bin_geq, OP_some, IfP_dec]
  refine ⟨fun hge => ?_, fun hlt => ?_⟩
  · obtain ⟨j, rfl⟩ : ∃ j, i = j + 1 := ⟨i - 1, by omega⟩
    have ej : ((j + 1 : Nat) : Int) - 1 = (j : Int) := by omega
    have hjx : j < xs.length := by omega
    obtain ⟨ia, a1, a2⟩ := (dx4.mono xg).get hjx
    have hxj : xs[j] < 10000 := cx.1 _ (List.getElem_mem hjx)
    have hvd := val_drop 10000 xs hjx
    rw [ej]
    simp only [fadr_pt, Nat.zero_add, ldA xg, OP_some, a1, a2]
    obtain ⟨rs, dr, cr, vr⟩ := id hR
    have lr := canZ_len cr (by rw [vr]; exact big201 (by omega))
    refine consD dr (by omega) ?_
    intro r1 g1 y1 d1
    simp only [buildM d1, OP_some]
    refine C95f d1 (fun z hz => by
      rcases List.mem_cons.1 hz with rfl | hz
      · exact hxj
      · exact cr.1 z hz) (by simp; omega) ?_
    rintro r2 g2 y2 z2 ⟨fb, fi, fn, rfl, hfi⟩
    have ev : val 10000 (xs[j] :: rs) = xs[j] + 10000 * R := by simp only [val, vr]
    simp only [Bool.false_eq_true, if_false, ev] at z2
    obtain ⟨rw2, hrw2e, hrw⟩ := z2
    injection hrw2e with hrw2e
    injection hrw2e with hrw2e
    simp only [List.cons.injEq, and_true] at hrw2e
    obtain ⟨_, rfl⟩ := hrw2e
    rw [fldM]
    have hrw2 : MagZ g2 (sl 3 fi 0 fn) (xs[j] + 10000 * R) := by
      rw [Int.natAbs_natCast] at hrw
      exact hrw
    have hfi4 : h4.length < fi := by
      have h9 := (List.getElem?_eq_some_iff.1 hq).1
      have h8 := y1.1
      omega
    simp only [OP_some]
    have hR' : xs[j] + 10000 * R < 10000 * B := by omega
    generalize hRR : xs[j] + 10000 * R = R' at hrw2 hR'
    have xg2 : EX h4 g2 := (xg.trans y1).trans y2
    refine loopL (σ := Nat × Nat × Heap) (fun p => [I p.1, I p.2.1]) (fun p => p.2.2) (fun p => p.1 < p.2.1 ∧ p.2.1 ≤ 10000 ∧ EX g2 p.2.2 ∧ p.1 * B ≤ R' ∧ R' < p.2.1 * B) (fun p => p.2.1 - p.1)
      (0, 10000, g2) rfl rfl ⟨by show 0 < 10000; decide, Nat.le_refl _, EX.refl _, by simp, hR'⟩ ?_
    rintro ⟨lo, hi2, g3⟩ ⟨hlh, hh, y3, hlo, hhi⟩ L2 hL2
    simp only at hlh hh y3 hlo hhi hL2 ⊢
    have xg3 : EX h4 g3 := xg2.trans y3
    rw [q106z15]
    have e7 : IntKind.wrap .i64 ((hi2 : Int) - (lo : Int)) = ((hi2 - lo : Nat) : Int) := by rw [wrap64 (by omega) (by omega)]; omega
    have e8 : IntKind.wrap .i64 ((lo : Int) + (hi2 : Int)) = ((lo + hi2 : Nat) : Int) := by rw [wrap64 (by omega) (by omega)]; omega
    simp only [bin_sub, e7, OP_some, bin_gtr, IfP_dec]
    refine ⟨fun hgt => ?_, fun hle => ?_⟩
    · simp only [bin_add, e8, OP_some]
      rw [show (.int .i64 2 : Value) = .int .i64 ((2 : Nat) : Int) from rfl, quoI (by decide) (by omega)]
      simp only [OP_some, fadr_pt, Nat.zero_add, ldB xg3]
      have hm : (lo + hi2) / 2 ≤ 10000 := by omega
      refine C125 ((hwB.mono x4).mono xg3) (by omega) hm ?_
      intro r4 g4 y4 m4
      have hbm : B * ((lo + hi2) / 2) < bigW := by
        refine big201 ?_
        have := Nat.mul_le_mul_left B hm
        omega
      refine C98 (a := B * ((lo + hi2) / 2)) (b := R') m4 ((hrw2.mono y3).mono y4) hbm (big201 (by omega)) ?_
      simp only [bin_leq, OP_some, IfP_dec, true_and]
      generalize hmm : (lo + hi2) / 2 = mid at *
      have hml : lo < mid ∧ mid < hi2 := by omega
      refine ⟨fun h0 => ?_, fun h0 => ?_⟩
      · have := sgn_le.1 h0
        exact hL2 (mid, hi2, g4) ⟨hml.2, hh, y3.trans y4, by show mid * B ≤ R'; rw [Nat.mul_comm]; exact this, hhi⟩ (by show hi2 - mid < hi2 - lo; omega)
      · have : ¬ B * mid ≤ R' := fun h9 => h0 (sgn_le.2 h9)
        exact hL2 (lo, mid, g4) ⟨hml.1, by show mid ≤ 10000; omega, y3.trans y4, hlo, by show R' < mid * B; rw [Nat.mul_comm]; omega⟩ (by show mid - lo < hi2 - lo; omega)
    · have hhl : hi2 = lo + 1 := by omega
      subst hhl
      have hRl : R' < lo * B + B := by rw [Nat.succ_mul] at hhi; exact hhi
      rw [q106z21]
      have hq3 : g3[h4.length]? = some (.arr 3 (qs.map fun d : Nat => I d)) := by
        rw [← hq]
        have hgl := (List.getElem?_eq_some_iff.1 hq).1
        rw [((y1.trans y2).trans y3).2 _ hgl]
      have ad : iAdrSl 1 (sl 3 h4.length 0 xs.length) (I j) = some (pt h4.length j) := adr_sl hjx
      simp only [ad, OP_some]
      rw [store_at hq3 (by simp; omega) rfl rfl]
      simp only [OH_some]
      have es : (qs.map fun d : Nat => I d).set j (I lo) = (qs.set j lo).map fun d : Nat => I d := by rw [List.map_set]
      rw [es]
      have xg5 : EX h4 (g3.set h4.length (.arr 3 ((qs.set j lo).map fun d : Nat => I d))) := xg3.set (Nat.le_refl _) _
      have hq5 : (g3.set h4.length (.arr 3 ((qs.set j lo).map fun d : Nat => I d)))[h4.length]? = some (.arr 3 ((qs.set j lo).map fun d : Nat => I d)) := set_get hq3
      -- the rest does not lie there
      have hrw5 : MagZ (g3.set h4.length (.arr 3 ((qs.set j lo).map fun d : Nat => I d))) (sl 3 fi 0 fn) R' := (hrw2.mono y3).keepI (by rw [List.getElem?_set_ne (by omega)])
      generalize g3.set h4.length (.arr 3 ((qs.set j lo).map fun d : Nat => I d)) = g5 at xg5 hq5 hrw5 ⊢
      simp only [fadr_pt, Nat.zero_add, ldB xg5, OP_some]
      refine C125 ((hwB.mono x4).mono xg5) (by omega) (by omega) ?_
      intro r6 g6 y6 m6
      obtain ⟨us, du, cu, vu⟩ := hrw5.mono y6
      obtain ⟨ts, dt, ct, vt⟩ := m6
      have hBlo : B * lo ≤ R' := by rw [Nat.mul_comm]; exact hlo
      have lu := canZ_len cu (by rw [vu]; exact big201 (by omega))
      refine C99 du dt cu.1 ct.1 (by omega) ?_ (by rw [vu, vt]; exact hBlo) ?_
      · apply Classical.byContradiction
        intro hc
        have := Canon.lt_of_len (by decide) cu ct (by omega)
        omega
      intro r7 g7 os y7 d7 l7 s7 v7
      simp only [buildM d7, OP_some]
      refine C95 d7 l7 (by omega) ?_
      intro r8 g8 y8 z8
      simp only [Bool.false_eq_true, if_false] at z8
      obtain ⟨rw8, rfl, hrw8⟩ := z8
      rw [fldM]
      simp only [OP_some]
      have ej2 : IntKind.wrap .i64 ((j : Int) - 1) = (j : Int) - 1 := wrap64 (by omega) (by omega)
      simp only [q106z23, bin_sub, ej2, OP_some, true_and]
      have hlo4 : lo < 10000 := by omega
      have hv7 : val 10000 os = R' - B * lo := by omega
      have hrw8' : MagZ g8 rw8 (R' - B * lo) := by rw [← hv7]; simpa using hrw8
      have hBB : B * lo = lo * B := Nat.mul_comm _ _
      refine hL (j, R' - B * lo, rw8, qs.set j lo, g8) ⟨by show j ≤ xs.length; omega, ((xg5.trans y6).trans y7).trans y8, ?_, by rw [List.length_set]; exact hql, hqlim.set hlo4 _, hrw8', by show R' - B * lo < B; omega, ?_⟩ (by show j < j + 1; omega)
      · have hgl := (List.getElem?_eq_some_iff.1 hq5).1
        show g8[h4.length]? = _
        rw [((y6.trans y7).trans y8).2 _ hgl]; exact hq5
      · show val 10000 ((qs.set j lo).drop j) * B + (R' - B * lo) = val 10000 (xs.drop j)
        have hd : (qs.set j lo).drop j = lo :: qs.drop (j + 1) := by
          rw [List.drop_eq_getElem_cons (by rw [List.length_set]; omega), List.getElem_set_self]
          congr 1
          rw [List.drop_set_of_lt (by omega)]
        rw [hd, hvd, ← hval]
        simp only [val]
        have h1 : (lo + 10000 * val 10000 (qs.drop (j + 1))) * B = lo * B + 10000 * (val 10000 (qs.drop (j + 1)) * B) := by rw [Nat.add_mul, Nat.mul_assoc]
        rw [h1]
        omega
  · have hi0 : i = 0 := by omega
    subst hi0
    simp only [List.drop_zero] at hval
    rw [q106z24]
    have ld0 : ∀ {g'}, EX h4 g' → iLoad false 1 g' (pt h.length 0) = some (Go.Sim.B (decide (a < 0))) := fun y => EX.load (x4.trans y) x.a0
    have dq : DS 3 .i64 g (sl 3 h4.length 0 xs.length) qs := by
      rw [← hql]
      exact .inr ⟨h4.length, rfl, .inr ⟨[], by simp [objCells, hq]⟩⟩
    simp only [fadr_pt, Nat.add_zero, Nat.zero_add, ld0 xg, OP_some, build2 dq]
    refine C95 dq hqlim (by omega) ?_
    intro r1 g1 y1 z1
    generalize hQ : val 10000 qs = Q at z1 hval
    obtain ⟨rs, dr, cr, vr⟩ := hR.mono y1
    have lr := canZ_len cr (by rw [vr]; exact big201 (by omega))
    simp only [buildM dr, OP_some]
    refine C95 dr cr.1 (by omega) ?_
    intro r2 g2 y2 z2
    simp only [Bool.false_eq_true, if_false, vr] at z2
    have z1 := z1.mono y2
    have xg2 : EX h4 g2 := (xg.trans y1).trans y2
    have hl2 : h3.length + 1 ≤ g2.length := by have := xg2.1; omega
    obtain ⟨uq, rfl, hq'⟩ := id z1
    obtain ⟨ur, rfl, hr'⟩ := id z2
    have e3 : ∀ g' : Heap, iAlloc 36 [(.bool false), (.slice none 0 0)] g' = some (pt g'.length 0, g' ++ [.arr 36 [(.bool false), (.slice none 0 0)]]) := fun _ => rfl
    simp only [e3, OH_some, List.length_append, List.length_cons, List.length_nil, Nat.zero_add]
    have k0 : (g2 ++ [IObj.arr 36 [(.bool false), (.slice none 0 0)]] ++ [IObj.arr 36 [(.bool false), (.slice none 0 0)]])[g2.length]? = some (.arr 36 [(.bool false), (.slice none 0 0)]) := by simp
    have k1 : (g2 ++ [IObj.arr 36 [(.bool false), (.slice none 0 0)]] ++ [IObj.arr 36 [(.bool false), (.slice none 0 0)]])[g2.length + 1]? = some (.arr 36 [(.bool false), (.slice none 0 0)]) := by simp
    have y3 : EX g2 (g2 ++ [IObj.arr 36 [(.bool false), (.slice none 0 0)]] ++ [IObj.arr 36 [(.bool false), (.slice none 0 0)]]) := (EX.append _ _).push _
    generalize g2 ++ [IObj.arr 36 [(.bool false), (.slice none 0 0)]] ++ [IObj.arr 36 [(.bool false), (.slice none 0 0)]] = g3 at k0 k1 y3 ⊢
    rw [store2 k0]
    simp only [OH_some]
    have y4 : EX g2 (g3.set g2.length (.arr 36 [Go.Sim.B (decide ((if decide (a < 0) = true then -(Q : Int) else (Q : Int)) < 0)), uq])) := y3.set (Nat.le_refl _) _
    have k0' := set_get (o := .arr 36 [Go.Sim.B (decide ((if decide (a < 0) = true then -(Q : Int) else (Q : Int)) < 0)), uq]) k0
    have k1' : (g3.set g2.length (.arr 36 [Go.Sim.B (decide ((if decide (a < 0) = true then -(Q : Int) else (Q : Int)) < 0)), uq]))[g2.length + 1]? = some (.arr 36 [(.bool false), (.slice none 0 0)]) := by rw [List.getElem?_set_ne (by omega)]; exact k1
    generalize g3.set g2.length (.arr 36 [Go.Sim.B (decide ((if decide (a < 0) = true then -(Q : Int) else (Q : Int)) < 0)), uq]) = g4 at y4 k0' k1' ⊢
    rw [store2 k1']
    simp only [OH_some]
    have y5 : EX g2 (g4.set (g2.length + 1) (.arr 36 [Go.Sim.B (decide ((R : Int) < 0)), ur])) := y4.set (by omega) _
    have m1 := set_get (o := .arr 36 [Go.Sim.B (decide ((R : Int) < 0)), ur]) k1'
    have m0 : (g4.set (g2.length + 1) (.arr 36 [Go.Sim.B (decide ((R : Int) < 0)), ur]))[g2.length]? = some (.arr 36 [Go.Sim.B (decide ((if decide (a < 0) = true then -(Q : Int) else (Q : Int)) < 0)), uq]) := by rw [List.getElem?_set_ne (by omega)]; exact k0'
    generalize g4.set (g2.length + 1) (.arr 36 [Go.Sim.B (decide ((R : Int) < 0)), ur]) = g5h at y5 m0 m1 ⊢
    have xg5 : EX h4 g5h := xg2.trans y5
    have xh5 : EX h g5h := (x.ex.trans x4).trans xg5
    have o4 := xg5.get (x4.get x.out)
    have o5 := xg5.get g5
    have zq := z1.mono y5
    have zr := z2.mono y5
    have zb : ZV g5h (.agg #[Go.Sim.B (decide ((B : Int) < 0)), w]) (B : Int) := ⟨w, rfl, (hw.mono x.ex).mono (x4.trans xg5)⟩
    have hQv : Q * B + R = a.natAbs := by rw [hval, ex]
    -- the two results
    have put : ∀ (r s : Value) (g6 : Heap), EX g5h g6 → ZV g6 r (a / (B : Int)) → ZV g6 s (a % (B : Int)) → OH (oStore 2 g6 (pt (h.length + 2) 0) r) fun _ h_1 => OH (oStore 2 h_1 (pt h3.length 0) s) fun _ h_2 => OP (iLoad true 2 h_2 (pt (h.length + 2) 0)) fun r0 => OP (iLoad true 2 h_2 (pt h3.length 0)) fun r1 => K (.tuple #[r0, r1]) h_2 := by
      rintro r s g6 y6 zr' zs'
      obtain ⟨u1, rfl, hu1⟩ := id zr'
      obtain ⟨u2, rfl, hu2⟩ := id zs'
      have n4 := y6.get o4
      have n5 := y6.get o5
      rw [store2 n4]
      simp only [OH_some]
      have n5' : (g6.set (h.length + 2) (.arr 36 [Go.Sim.B (decide (a / (B : Int) < 0)), u1]))[h3.length]? = some (.arr 36 [.bool false, .slice none 0 0]) := by rw [List.getElem?_set_ne (by omega)]; exact n5
      rw [store2 n5']
      simp only [OH_some]
      have p4 : ((g6.set (h.length + 2) (.arr 36 [Go.Sim.B (decide (a / (B : Int) < 0)), u1])).set h3.length (.arr 36 [Go.Sim.B (decide (a % (B : Int) < 0)), u2]))[h.length + 2]? = some (.arr 36 [Go.Sim.B (decide (a / (B : Int) < 0)), u1]) := by
        rw [List.getElem?_set_ne (by omega)]; exact set_get n4
      rw [load2 p4, OP_some, load2 (set_get n5'), OP_some]
      exact hk _ _ _ (((xh5.trans y6).set (by omega) _).set (by omega) _) ((zr'.setB n4 _).setB n5' _) ((zs'.setB n4 _).setB n5' _)
    have hBne : (0 : Int) < (B : Int) := by omega
    have un : ∀ q r : Int, r + (B : Int) * q = a → 0 ≤ r → r < (B : Int) → a / (B : Int) = q ∧ a % (B : Int) = r := fun q r h1 h2 h3 => (Int.ediv_emod_unique hBne).2 ⟨h1, h2, h3⟩
    have hQB : ((Q * B : Nat) : Int) = (B : Int) * (Q : Int) := by rw [Int.natCast_mul, Int.mul_comm]
    -- nothing to be turned
    have plain : (0 ≤ a ∨ R = 0) → p106z31 Tryz.prog K (pt (h.length + 1) 0) (pt (h.length + 2) 0) (pt h3.length 0) (pt g2.length 0) (pt (g2.length + 1) 0) (Go.Sim.B false) undef g5h ∧ p106z31 Tryz.prog K (pt (h.length + 1) 0) (pt (h.length + 2) 0) (pt h3.length 0) (pt g2.length 0) (pt (g2.length + 1) 0) (Go.Sim.B true) (Go.Sim.B false) g5h := by
      intro hc
      have hun : a / (B : Int) = (if decide (a < 0) = true then -(Q : Int) else (Q : Int)) ∧ a % (B : Int) = (R : Int) := by
        by_cases hneg : a < 0
        · have hR0 : R = 0 := by omega
          rw [decide_eq_true hneg, if_pos rfl]
          refine un _ _ ?_ (by omega) (by omega)
          rw [Int.mul_neg, ← hQB]
          omega
        · rw [decide_eq_false hneg, if_neg (by simp)]
          refine un _ _ ?_ (by omega) (by omega)
          rw [← hQB]
          omega
      have tail : OP (iLoad true 2 g5h (pt g2.length 0)) fun x90 => OP (iLoad true 2 g5h (pt (g2.length + 1) 0)) fun x91 => OH (oStore 2 g5h (pt (h.length + 2) 0) x90) fun _ h_1 => (iLoad true 2 h_1 (pt (g2.length + 1) 0) = some x91) ∧ OH (oStore 2 h_1 (pt h3.length 0) x91) fun _ h_2 => OP (iLoad true 2 h_2 (pt (h.length + 2) 0)) fun r0 => OP (iLoad true 2 h_2 (pt h3.length 0)) fun r1 => K (.tuple #[r0, r1]) h_2 := by
        have := put _ _ g5h (EX.refl _) (by rw [hun.1]; exact zq) (by rw [hun.2]; exact zr)
        rw [load2 m0, OP_some, load2 m1, OP_some]
        rw [store2 o4] at this ⊢
        simp only [OH_some] at this ⊢
        refine ⟨?_, this⟩
        refine load2 (e := 36) ?_
        rw [List.getElem?_set_ne (by omega)]
        exact m1
      constructor
      · rw [q106z31]
        simp only [iPick_f, OP_some, IfP_false, true_and, and_true]
        exact tail
      · rw [q106z31]
        simp only [iPick_t, OP_some, IfP_false, true_and, and_true]
        exact tail
    have ldl : iLoad false 1 g5h (pt (g2.length + 1) 1) = some ur := by simp [iLoad, objCells, m1, iPart]
    obtain ⟨l, p1, p2⟩ := (hr'.mono y5).len0
    have p2' : 0 < l ↔ 0 < R := by simpa using p2
    simp only [ld0 xg5, OP_some, q106z29]
    by_cases hneg : a < 0
    · rw [decide_eq_true hneg]
      simp only [GdP_tt, fadr_pt, Nat.add_comm 0 1, ldl, OP_some, p1, bin_gtr]
      by_cases hR0 : R = 0
      · rw [decide_eq_false (by omega)]
        exact (plain (.inr hR0)).2
      · rw [decide_eq_true (by omega), q106z31]
        have hbigA : a.natAbs < bigW := big201 (by omega)
        have hQle : Q ≤ a.natAbs := by
          have : Q * 1 ≤ Q * B := Nat.mul_le_mul_left _ hB0
          omega
        have hone : (1 : Int).natAbs < bigW := lt_bigW (by decide +kernel)
        simp only [iPick_t, OP_some, IfP_true, load2 m0, true_and]
        refine C22 (z := 1) (by decide) ?_
        intro r6 g6 y6 z6
        refine ⟨⟨EX.load y6 (load2 m0), trivial⟩, ?_⟩
        have ldb : ∀ {g'}, EX h4 g' → iLoad true 2 g' (pt (h.length + 1) 0) = some (.agg #[Go.Sim.B (decide ((B : Int) < 0)), w]) := fun y => EX.load (x4.trans y) x.b2
        refine C94 (zq.mono y6) z6 (by rw [decide_eq_true hneg, if_pos rfl]; omega) hone ?_
        intro r7 g7 y7 z7
        have xg7 := (xg5.trans y6).trans y7
        simp only [ldb xg5, ldb (xg5.trans y6), ldb xg7, OP_some, load2 m1, EX.load y6 (load2 m1), EX.load (y6.trans y7) (load2 m1), true_and, and_true]
        refine C94 (zb.mono (y6.trans y7)) (zr.mono (y6.trans y7)) (by have := big201 (n := B) (by omega); simpa using this) (by have := big201 (n := R) (by omega); simpa using this) ?_
        intro r8 g8 y8 z8
        have hun := un (-(Q : Int) - 1) ((B : Int) - (R : Int)) (by
          rw [Int.mul_sub, Int.mul_neg, ← hQB, Int.mul_one]
          omega) (by omega) (by omega)
        rw [decide_eq_true hneg, if_pos rfl] at z7
        exact put _ _ g8 ((y6.trans y7).trans y8) (by rw [hun.1]; exact z7.mono y8) (by rw [hun.2]; exact z8)
    · rw [decide_eq_false hneg]
      simp only [GdP_ft]
      exact (plain (.inl (by omega))).1

end Go.Proofs.YthplaillblmgfaaGreatDoor


namespace Go.Proofs.YthplaillblmgfaaGreatDoor
open Go.Sim

theorem C101 {va : Value} {a : Int} {h : Heap} {K : Value → Heap → Prop} (ha : ZV h va a) (hk : ∀ u h', EX h h' → MagZ h' u a.natAbs → K (.agg #[B false, u]) h') : CallP Tryz.prog 101 [va] h K := by
  obtain ⟨v, rfl, hv⟩ := ha
  refine f101 ?_
  have e1 : iBox 36 h (.agg #[B (decide (a < 0)), v]) = some (pt h.length 0, h ++ [.arr 36 [B (decide (a < 0)), v]]) := rfl
  have e2 : ∀ g' : Heap, iAlloc 36 [(.bool false), (.slice none 0 0)] g' = some (pt g'.length 0, g' ++ [.arr 36 [(.bool false), (.slice none 0 0)]]) := fun _ => rfl
  simp only [T101, e1, e2, OH_some, List.length_append, List.length_cons, List.length_nil, Nat.zero_add]
  have k0 : (h ++ [IObj.arr 36 [B (decide (a < 0)), v]] ++ [IObj.arr 36 [(.bool false), (.slice none 0 0)]])[h.length]? = some (.arr 36 [B (decide (a < 0)), v]) := by simp
  have k1 : (h ++ [IObj.arr 36 [B (decide (a < 0)), v]] ++ [IObj.arr 36 [(.bool false), (.slice none 0 0)]])[h.length + 1]? = some (.arr 36 [(.bool false), (.slice none 0 0)]) := by simp
  have x1 : EX h (h ++ [IObj.arr 36 [B (decide (a < 0)), v]] ++ [IObj.arr 36 [(.bool false), (.slice none 0 0)]]) := (EX.append _ _).push _
  generalize h ++ [IObj.arr 36 [B (decide (a < 0)), v]] ++ [IObj.arr 36 [(.bool false), (.slice none 0 0)]] = h1 at k0 k1 x1 ⊢
  simp only [fadr_pt, Nat.add_zero, OP_some]
  rw [store_at k0 (by simp) rfl rfl]
  simp only [OH_some, List.set_cons_zero]
  have k1' : (h1.set h.length (.arr 36 [B false, v]))[h.length + 1]? = some (.arr 36 [(.bool false), (.slice none 0 0)]) := by rw [List.getElem?_set_ne (by omega)]; exact k1
  rw [load2 (set_get k0)]
  simp only [OP_some]
  exact fin2z k1' (hk _ _ ((x1.set (Nat.le_refl _) _).set (by omega) _) (((hv.mono x1).setB k0 _).setB k1' _))

theorem C91 {va vb : Value} {a b : Int} {h : Heap} {K : Value → Heap → Prop} (ha : ZV h va a) (hb : ZV h vb b) (la : a.natAbs < 10000 ^ 199) (lb : b.natAbs < 10000 ^ 199)
    (hk : ∀ u h', EX h h' → MagZ h' u (Nat.gcd a.natAbs b.natAbs) → K (.agg #[B false, u]) h') : CallP Tryz.prog 91 [va, vb] h K := by
  have ha0 := ha
  have hb0 := hb
  obtain ⟨v, rfl, hv⟩ := ha
  obtain ⟨w, rfl, hw⟩ := hb
  refine f91 ?_
  have e1 : ∀ (g : Heap) (s : Bool) (v : Value), iBox 36 g (.agg #[B s, v]) = some (pt g.length 0, g ++ [.arr 36 [B s, v]]) := fun _ _ _ => rfl
  have e2 : ∀ g' : Heap, iAlloc 36 [(.bool false), (.slice none 0 0)] g' = some (pt g'.length 0, g' ++ [.arr 36 [(.bool false), (.slice none 0 0)]]) := fun _ => rfl
  simp only [T91, e1, e2, OH_some, List.length_append, List.length_cons, List.length_nil, Nat.zero_add]
  have k0 : (h ++ [IObj.arr 36 [B (decide (a < 0)), v]] ++ [IObj.arr 36 [B (decide (b < 0)), w]] ++ [IObj.arr 36 [(.bool false), (.slice none 0 0)]])[h.length]? = some (.arr 36 [B (decide (a < 0)), v]) := by simp
  have k1 : (h ++ [IObj.arr 36 [B (decide (a < 0)), v]] ++ [IObj.arr 36 [B (decide (b < 0)), w]] ++ [IObj.arr 36 [(.bool false), (.slice none 0 0)]])[h.length + 1]? = some (.arr 36 [B (decide (b < 0)), w]) := by simp
  have k2 : (h ++ [IObj.arr 36 [B (decide (a < 0)), v]] ++ [IObj.arr 36 [B (decide (b < 0)), w]] ++ [IObj.arr 36 [(.bool false), (.slice none 0 0)]])[h.length + 2]? = some (.arr 36 [(.bool false), (.slice none 0 0)]) := by simp
  have x1 : EX h (h ++ [IObj.arr 36 [B (decide (a < 0)), v]] ++ [IObj.arr 36 [B (decide (b < 0)), w]] ++ [IObj.arr 36 [(.bool false), (.slice none 0 0)]]) := ((EX.append _ _).push _).push _
  generalize h ++ [IObj.arr 36 [B (decide (a < 0)), v]] ++ [IObj.arr 36 [B (decide (b < 0)), w]] ++ [IObj.arr 36 [(.bool false), (.slice none 0 0)]] = h1 at k0 k1 k2 x1 ⊢
  rw [load2 k0]
  simp only [OP_some, true_and]
  refine C101 (ha0.mono x1) ?_
  intro u2 h2 x2 m2
  simp only [load2 k1, EX.load x2 (load2 k1), OP_some, true_and]
  refine C101 (hb0.mono (x1.trans x2)) ?_
  intro u3 h3 x3 m3
  have k0' := (x2.trans x3).get k0
  have k1' := (x2.trans x3).get k1
  have k2' := (x2.trans x3).get k2
  have x13 := (x1.trans x2).trans x3
  have m2 := m2.mono x3
  rw [store2 k0']
  simp only [OH_some]
  have q1 : (h3.set h.length (.arr 36 [B false, u2]))[h.length + 1]? = some (.arr 36 [B (decide (b < 0)), w]) := by rw [List.getElem?_set_ne (by omega)]; exact k1'
  rw [store2 q1]
  simp only [OH_some]
  refine loopL (σ := Nat × Nat × Value × Value × Heap) (fun _ => []) (fun p => p.2.2.2.2)
    (fun p => EX h p.2.2.2.2 ∧ p.2.2.2.2[h.length]? = some (.arr 36 [B false, p.2.2.1]) ∧ p.2.2.2.2[h.length + 1]? = some (.arr 36 [B false, p.2.2.2.1]) ∧ p.2.2.2.2[h.length + 2]? = some (.arr 36 [.bool false, .slice none 0 0]) ∧ MagZ p.2.2.2.2 p.2.2.1 p.1 ∧ MagZ p.2.2.2.2 p.2.2.2.1 p.2.1 ∧ p.1 < 10000 ^ 199 ∧ p.2.1 < 10000 ^ 199 ∧ Nat.gcd p.1 p.2.1 = Nat.gcd a.natAbs b.natAbs) (fun p => p.2.1)
    (a.natAbs, b.natAbs, u2, u3, (h3.set h.length (.arr 36 [B false, u2])).set (h.length + 1) (.arr 36 [B false, u3])) rfl rfl
    ⟨(x13.set (Nat.le_refl _) _).set (by omega) _, by rw [List.getElem?_set_ne (by omega)]; exact set_get k0', set_get q1, by rw [List.getElem?_set_ne (by omega), List.getElem?_set_ne (by omega)]; exact k2', (m2.setB k0' _).setB q1 _, (m3.setB k0' _).setB q1 _, la, lb, rfl⟩ ?_
  rintro ⟨x, y, ux, uy, g⟩ ⟨xg, j0, j1, j2, mx, my, lx, ly, hg⟩ L hL
  simp only at xg j0 j1 j2 mx my lx ly hg hL ⊢
  rw [q91z5]
  obtain ⟨l, p1, p2⟩ := my.len0
  have ld : iLoad false 1 g (pt (h.length + 1) 1) = some uy := by simp [iLoad, objCells, j1, iPart]
  simp only [fadr_pt, Nat.zero_add, ld, OP_some, p1, bin_gtr, IfP_dec]
  refine ⟨fun hgt => ?_, fun hle => ?_⟩
  · have hy : 0 < y := p2.1 (by omega)
    rw [load2 j0, OP_some, load2 j1, OP_some]
    refine C106 mx.toZ my.toZ (by omega) (by simpa using lx) (by simpa using ly) ?_
    intro r s g1 y1 zr zs
    obtain ⟨u5, rfl, hu5⟩ := id zr
    obtain ⟨u6, hs6, hu6⟩ := id zs
    have hpos : decide ((x : Int) % (y : Int) < 0) = false := decide_eq_false (by have := Int.emod_nonneg (x : Int) (show (y : Int) ≠ 0 by omega); omega)
    rw [hpos] at hs6
    subst hs6
    have hmv : ((x : Int) % (y : Int)).natAbs = x % y := by
      rw [← Int.natCast_emod, Int.natAbs_natCast]
    rw [hmv] at hu6
    have gl : h.length + 2 < g1.length := by
      have := (List.getElem?_eq_some_iff.1 j2).1
      have := y1.1
      omega
    simp only [ext_tuple, pair0, pair1, OP_some, e2, OH_some, List.length_append, List.length_cons, List.length_nil, Nat.zero_add]
    have n0 : (g1 ++ [IObj.arr 36 [(.bool false), (.slice none 0 0)]] ++ [IObj.arr 36 [(.bool false), (.slice none 0 0)]])[g1.length]? = some (.arr 36 [(.bool false), (.slice none 0 0)]) := by simp
    have n1 : (g1 ++ [IObj.arr 36 [(.bool false), (.slice none 0 0)]] ++ [IObj.arr 36 [(.bool false), (.slice none 0 0)]])[g1.length + 1]? = some (.arr 36 [(.bool false), (.slice none 0 0)]) := by simp
    have y2 : EX g1 (g1 ++ [IObj.arr 36 [(.bool false), (.slice none 0 0)]] ++ [IObj.arr 36 [(.bool false), (.slice none 0 0)]]) := (EX.append _ _).push _
    generalize g1 ++ [IObj.arr 36 [(.bool false), (.slice none 0 0)]] ++ [IObj.arr 36 [(.bool false), (.slice none 0 0)]] = g2 at n0 n1 y2 ⊢
    rw [store2 n0]
    simp only [OH_some]
    have n1' : (g2.set g1.length (.arr 36 [B (decide ((x : Int) / (y : Int) < 0)), u5]))[g1.length + 1]? = some (.arr 36 [(.bool false), (.slice none 0 0)]) := by rw [List.getElem?_set_ne (by omega)]; exact n1
    rw [store2 n1']
    simp only [OH_some]
    have y3 : EX g1 ((g2.set g1.length (.arr 36 [B (decide ((x : Int) / (y : Int) < 0)), u5])).set (g1.length + 1) (.arr 36 [B false, u6])) := (y2.set (Nat.le_refl _) _).set (by omega) _
    have n6 := set_get (o := .arr 36 [B false, u6]) n1'
    generalize (g2.set g1.length (.arr 36 [B (decide ((x : Int) / (y : Int) < 0)), u5])).set (g1.length + 1) (.arr 36 [B false, u6]) = g3 at y3 n6 ⊢
    have i0 := (y1.trans y3).get j0
    have i1 := (y1.trans y3).get j1
    have i2 := (y1.trans y3).get j2
    rw [load2 i1]
    simp only [OP_some, true_and, load2 n6]
    rw [store2 i0]
    simp only [OH_some, and_true]
    have s6 : (g3.set h.length (.arr 36 [B false, uy]))[g1.length + 1]? = some (.arr 36 [B false, u6]) := by rw [List.getElem?_set_ne (by omega)]; exact n6
    have s1 : (g3.set h.length (.arr 36 [B false, uy]))[h.length + 1]? = some (.arr 36 [B false, uy]) := by rw [List.getElem?_set_ne (by omega)]; exact i1
    refine ⟨load2 s6, ?_⟩
    rw [store2 s1]
    simp only [OH_some, true_and]
    have hlt : x % y < y := Nat.mod_lt _ hy
    refine hL (y, x % y, uy, u6, (g3.set h.length (.arr 36 [B false, uy])).set (h.length + 1) (.arr 36 [B false, u6])) ⟨(((xg.trans y1).trans y3).set (Nat.le_refl _) _).set (by omega) _, ?_, set_get s1, ?_, (((my.mono y1).mono y3).setB i0 _).setB s1 _, (((hu6.mono y3)).setB i0 _).setB s1 _, ly, by show x % y < _; omega, ?_⟩ hlt
    · show ((g3.set h.length _).set (h.length + 1) _)[h.length]? = _
      rw [List.getElem?_set_ne (by omega)]; exact set_get i0
    · show ((g3.set h.length _).set (h.length + 1) _)[h.length + 2]? = _
      rw [List.getElem?_set_ne (by omega), List.getElem?_set_ne (by omega)]; exact i2
    · show Nat.gcd y (x % y) = _
      rw [← hg, Nat.gcd_comm x y, Nat.gcd_rec y x, Nat.gcd_comm]
  · have hy : y = 0 := by
      apply Classical.byContradiction
      intro hc
      have := p2.2 (by omega)
      omega
    subst hy
    rw [q91z10, load2 j0]
    simp only [OP_some]
    rw [Nat.gcd_zero_right] at hg
    subst hg
    exact fin2z j2 (hk _ _ (xg.set (by omega) _) (mx.setB j2 _))

end Go.Proofs.YthplaillblmgfaaGreatDoor


namespace Go.Proofs.YthplaillblmgfaaGreatDoor
open Go.Sim

theorem ok_len {W : List Tx} (ok : Ok W) : W.length < 1000000 ∧ ∀ w ∈ W, w.length < 4611686018427387904 := ⟨by have := ok.few; omega, fun w hw => by have := ok.le w hw; omega⟩

theorem clearC {b : Nat} {v : Value} {W : List Tx} {h : Heap} {K : Value → Heap → Prop} (ok : Ok W) (h0 : W ≠ []) (hv : OwnS b h 9 v (W.map S))
    (hno : (∀ t, ¬ Rc W [] t) → ∀ h', EX h h' → K (.tuple #[S [], I 5]) h')
    (hyes : ∀ t, Rc W [] t → (∀ t', Rc W [] t' → rk t ≤ rk t') → ∀ h', EX h h' → K (.tuple #[S t, I 0]) h') : CallP Tryz.prog 9 [v] h K :=
  C9 hv (ok_len ok).1 (ok_len ok).2 (fun hc => absurd (chk0 ok h0) hc) (fun _ => hno) fun _ => hyes

theorem ins_le {ρ : RMap} {h : Heap} {e : TypeId} {k : IntKind} {v' v : Value} {ns : List Int} (q : INS h e k v' ns) (r : VRel ρ v' v) : ns.length ≤ maxLen := by
  rcases q.2 with ⟨_, h0⟩ | ⟨i, rfl, _⟩
  · rw [h0]; simp
  · obtain ⟨_, _, _, _, _, _, _, h4, h5, _⟩ := slice_inv r
    omega

end Go.Proofs.YthplaillblmgfaaGreatDoor


namespace Go.Proofs.YthplaillblmgfaaGreatDoor
open Go.Sim

def RatV (h : Heap) (val : Value) (a b : Int) : Prop := ∃ u w, val = .agg #[B (decide (a < 0)), u, B (decide (b < 0)), w] ∧ MagV h u a.natAbs ∧ MagV h w b.natAbs

theorem C89 {u w : Value} {s : Bool} {h : Heap} {K : Value → Heap → Prop} (hw : MagV h w 1) (hk : ∀ h', EX h h' → K (B true) h') : CallP Tryz.prog 89 [.agg #[B s, u, B false, w]] h K := by
  refine f89 ?_
  have e1 : iBox 86 h (.agg #[B s, u, B false, w]) = some (pt h.length 0, h ++ [.arr 86 [B s, u, B false, w]]) := rfl
  simp only [T89, e1, OH_some]
  have x1 : EX h (h ++ [IObj.arr 86 [B s, u, B false, w]]) := EX.append _ _
  have l3 : iLoad false 1 (h ++ [IObj.arr 86 [B s, u, B false, w]]) (pt h.length 3) = some w := load_last rfl
  obtain ⟨xs, dx, cx, vx⟩ := hw.mono x1
  have hx1 : xs = [1] := Canon.unique (by decide) cx ⟨fun y hy => by simp at hy; subst hy; decide, by simp⟩ (by rw [vx]; rfl)
  subst hx1
  obtain ⟨i, g1, g2⟩ := dx.get (j := 0) (by simp)
  have g1' : iAdrSl 1 w (I 0) = some (pt i 0) := g1
  simp only [fadr_pt, Nat.zero_add, Nat.add_zero, OP_some, l3, dx.len, List.length_singleton, bin_eql, q89z4]
  rw [decide_eq_true (show ((1 : Nat) : Int) = 1 by rfl)]
  simp only [GdP_tt, l3, OP_some, g1', g2, bin_eql, q89z6, iPick_t]
  exact hk _ x1

end Go.Proofs.YthplaillblmgfaaGreatDoor


namespace Go.Proofs.YthplaillblmgfaaGreatDoor
open Go.Sim
end Go.Proofs.YthplaillblmgfaaGreatDoor


namespace Go.Proofs.YthplaillblmgfaaGreatDoor
open Go.Sim

def isW : Value → Bool
  | .int .u32 _ => true
  | _ => false

theorem DSw.keep {e : TypeId} {h h' : Heap} {v : Value} {xs : List Nat} (x : KP isW h h') (p : DS e .u32 h v xs) : DS e .u32 h' v xs := by
  refine p.imp id fun ⟨i, a, b⟩ => ⟨i, a, ?_⟩
  cases xs with
  | nil => exact .inl rfl
  | cons y ys =>
    obtain ⟨r, c⟩ := b.resolve_left (by simp)
    exact .inr ⟨r, x i _ _ c rfl⟩

theorem MagV.keep {h h' : Heap} {v : Value} {n : Nat} (x : KP isW h h') (p : MagV h v n) : MagV h' v n := let ⟨xs, a, b, c⟩ := p; ⟨xs, DSw.keep x a, b, c⟩
theorem IntV.keep {h h' : Heap} {v : Value} {a : Int} (x : KP isW h h') (p : IntV h v a) : IntV h' v a := let ⟨u, e, m⟩ := p; ⟨u, e, m.keep x⟩

def OwnI (b : Nat) (h : Heap) (v : Value) (zs : List Nat) : Prop :=
  ∃ rows, OwnR b h 81 2 v rows ∧ rows.length = zs.length ∧ (∀ r ∈ rows, ∃ s t, r = .bool s :: t) ∧ ∀ (k : Nat) (row : List Value) (z : Nat), rows[k]? = some row → zs[k]? = some z → IntV h (.agg row.toArray) z

theorem flat_bool {rows : List (List Value)} (h : ∀ r ∈ rows, ∃ s t, r = .bool s :: t) : ∀ c r, rows.flatten = c :: r → isW c = false := by
  intro c r hc
  cases rows with
  | nil => simp at hc
  | cons x xs =>
    obtain ⟨s, t, rfl⟩ := h x (by simp)
    simp at hc
    rw [← hc.1]; rfl

theorem OwnI.ex {b : Nat} {h h' : Heap} {v : Value} {zs : List Nat} (x : EX h h') (o : OwnI b h v zs) : OwnI b h' v zs :=
  let ⟨rows, a, c, e, d⟩ := o; ⟨rows, a.ex x, c, e, fun k r q h1 h2 => (d k r q h1 h2).mono x⟩

theorem OwnI.set {b : Nat} {h : Heap} {v : Value} {zs : List Nat} {j : Nat} {e : TypeId} {s : Bool} {r : List Value} (o : OwnI b h v zs) (hj : h[j]? = some (.arr e (.bool s :: r))) (hne : ∀ n, v ≠ sl 81 j 0 n) (ob : IObj) : OwnI b (h.set j ob) v zs :=
  let ⟨rows, a, c, e', d⟩ := o
  ⟨rows, a.keep fun d' n hv _ => List.getElem?_set_ne fun hjd => by subst hjd; exact hne n hv, c, e', fun k r q h1 h2 => (d k r q h1 h2).setB hj ob⟩

theorem OwnI.get {b : Nat} {h : Heap} {v : Value} {zs : List Nat} (p : OwnI b h v zs) {k : Nat} (hk : k < zs.length) : ∃ i o r, iAdrSl 2 v (I k) = some (pt i o) ∧ iLoad true 2 h (pt i o) = some r ∧ IntV h r zs[k] := by
  obtain ⟨rows, a, b, _, c⟩ := p
  have hk' : k < rows.length := by omega
  obtain ⟨i, o, cs, g1, g2, g3, g4⟩ := a.rs.get hk'
  exact ⟨i, o, _, g1, row_all g2 g3 g4, c k _ _ (List.getElem?_eq_getElem hk') (List.getElem?_eq_getElem hk)⟩

theorem IntV.cells {h : Heap} {v : Value} {a : Int} (p : IntV h v a) : noTuple v = true ∧ ∃ s u, v = .agg #[B s, u] ∧ vcells v = [B s, u] := by
  obtain ⟨u, rfl, _⟩ := p
  exact ⟨rfl, _, _, rfl, rfl⟩

theorem OwnI.app {h0 h : Heap} {v x : Value} {a : Nat} {zs : List Nat} {z0 : List Value} {K : Value → Heap → Prop} (o : OwnI h0.length h v zs) (hex : EX h0 h) (hx : IntV h x a) (hz : z0.length = 2) (hl : zs.length ≤ 10000)
    (hk : ∀ v' h', EX h0 h' → OwnI h0.length h' v' (zs ++ [a]) → K v' h') : OH (iMkSl 81 1 z0 h [(0, 2, x)]) fun y h2 => OH (iApp 81 2 32 h2 v y) K := by
  obtain ⟨rows, o1, o2, o3, o4⟩ := o
  obtain ⟨t1, s, u, e1, e2⟩ := hx.cells
  refine o1.app hex hz t1 e2 rfl (by omega) (by simp [maxLen]; omega) ?_
  intro v' h' x' hold o'
  have kp : KP isW h h' := o1.kp (flat_bool o3) hold
  refine hk v' h' x' ⟨_, o', by simp [o2], fun r hr => ?_, fun k row q h1 h2 => ?_⟩
  · rcases List.mem_append.1 hr with hr | hr
    · exact o3 r hr
    · rw [List.mem_singleton.1 hr]; exact ⟨s, _, rfl⟩
  · by_cases hk : k < rows.length
    · rw [List.getElem?_append_left hk] at h1
      rw [List.getElem?_append_left (by omega)] at h2
      exact (o4 k row q h1 h2).keep kp
    · rw [List.getElem?_append_right (by omega)] at h1
      rw [List.getElem?_append_right (by omega), ← o2] at h2
      have h0 : k - rows.length = 0 := by
        have := (List.getElem?_eq_some_iff.1 h1).1
        simp at this; omega
      rw [h0] at h1 h2
      simp only [List.getElem?_cons_zero, Option.some.injEq] at h1 h2
      subst h1 h2
      rw [← e1]
      exact hx.keep kp

end Go.Proofs.YthplaillblmgfaaGreatDoor


namespace Go.Proofs.YthplaillblmgfaaGreatDoor
open Go.Sim

def Can (W : List Tx) (s : Tx) (i : Nat) : Prop := ∃ x, Rows' W x ∧ x.flatten = s.drop i
open Classical in
noncomputable def canB (W : List Tx) (s : Tx) (i : Nat) : Bool := decide (Can W s i)
noncomputable def fitB (W : List Tx) (s : Tx) (i : Nat) (w : Tx) : Bool := decide (w <+: s.drop i) && canB W s (i + w.length)

structure RH (h g : Heap) (s : Tx) (cells : List Value) (tc ec ea fc : Nat) : Prop where
  ex : EX h g
  b : h.length ≤ tc ∧ h.length ≤ ec ∧ h.length ≤ ea ∧ h.length ≤ fc
  t : g[tc]? = some (.arr 9 [S s])
  e : g[ec]? = some (.arr 95 [sl 4 ea 0 (s.length + 1)])
  a : g[ea]? = some (.arr 4 cells)
  f : g[fc]? = some (.arr 96 [.func (.func 56) #[] #[pt tc 0, pt ec 0]])

variable {h : Heap} {s : Tx} {cells : List Value} {tc ec ea fc : Nat}

theorem RH.push {g g' : Heap} (r : RH h g s cells tc ec ea fc) (x : EX g g') : RH h g' s cells tc ec ea fc := ⟨r.ex.trans x, r.b, x.get r.t, x.get r.e, x.get r.a, x.get r.f⟩

theorem RH.lt {g : Heap} (r : RH h g s cells tc ec ea fc) : ea < g.length := (List.getElem?_eq_some_iff.1 r.a).1

theorem ld1 {g : Heap} {i : Nat} {e : TypeId} {v : Value} (hg : g[i]? = some (.arr e [v])) : iLoad false 1 g (pt i 0) = some v := by simp [iLoad, objCells, hg, iPart]

inductive Grd (W : List Tx) (s : Tx) : Nat → List Nat → Prop
  | nil : Grd W s s.length []
  | cons {i j : Nat} {ix : List Nat} (hj : j < W.length) : i < s.length → fitB W s i W[j] = true → (∀ k (hk : k < W.length), k < j → fitB W s i W[k] = false) → Grd W s (i + W[j].length) ix → Grd W s i (j :: ix)

end Go.Proofs.YthplaillblmgfaaGreatDoor


namespace Go.Proofs.YthplaillblmgfaaGreatDoor
open Go.Sim

theorem flat_nil {W x : List Tx} (hn : ∀ w ∈ W, w ≠ []) (hx : Rows' W x) (e : x.flatten = []) : x = [] := by
  cases x with
  | nil => rfl
  | cons v x =>
    rw [List.flatten_cons, List.append_eq_nil_iff] at e
    exact absurd e.1 (hn v (hx v List.mem_cons_self))

def wds (W : List Tx) (ix : List Nat) : List Tx := ix.map fun j => W.getD j []

theorem getD_mem {W : List Tx} {j : Nat} (hj : j < W.length) : W.getD j [] = W[j] := by simp [hj]

theorem wds_rows {W : List Tx} {ix : List Nat} (h : ∀ j ∈ ix, j < W.length) : Rows' W (wds W ix) := fun w hw => by
  obtain ⟨j, hj, rfl⟩ := List.mem_map.1 hw
  rw [getD_mem (h j hj)]
  exact List.getElem_mem _

def Lex (a b : List Nat) : Prop := a = b ∨ ∃ k, ∃ (h1 : k < a.length) (h2 : k < b.length), (∀ j (j1 : j < a.length) (j2 : j < b.length), j < k → a[j] = b[j]) ∧ a[k] < b[k]

theorem Lex.cons {a b : List Nat} (x : Nat) (h : Lex a b) : Lex (x :: a) (x :: b) := by
  rcases h with rfl | ⟨k, h1, h2, he, hl⟩
  · exact .inl rfl
  · refine .inr ⟨k + 1, by simp; omega, by simp; omega, fun j j1 j2 hj => ?_, by simpa using hl⟩
    cases j with
    | zero => rfl
    | succ j =>
      simp only [List.getElem_cons_succ]
      exact he j (by simpa using j1) (by simpa using j2) (by omega)

theorem Grd.least {W : List Tx} {s : Tx} (hn : ∀ w ∈ W, w ≠ []) {i : Nat} {ix : List Nat} (g : Grd W s i ix) : ∀ {iy : List Nat}, (∀ j ∈ iy, j < W.length) → (wds W iy).flatten = s.drop i → Lex ix iy := by
  induction g with
  | nil =>
    intro iy h e
    rw [List.drop_length] at e
    have := flat_nil hn (wds_rows h) e
    have : iy = [] := by simpa [wds] using this
    exact .inl this.symm
  | @cons i j ix hj hi hf hfst _ ih =>
    intro iy h e
    cases iy with
    | nil =>
      have := congrArg List.length e
      simp [wds] at this
      omega
    | cons k iy =>
      have hk := h k List.mem_cons_self
      have h' : ∀ a ∈ iy, a < W.length := fun a ha => h a (List.mem_cons_of_mem _ ha)
      have e' : W[k] ++ (wds W iy).flatten = s.drop i := by
        rw [← e]
        simp only [wds, List.map_cons, List.flatten_cons, getD_mem hk]
      have er : (wds W iy).flatten = s.drop (i + W[k].length) := by
        rw [← List.drop_drop, ← e', List.drop_left]
      have fk : fitB W s i W[k] = true := by
        simp only [fitB, canB, Bool.and_eq_true, decide_eq_true_eq]
        exact ⟨⟨_, e'⟩, _, wds_rows h', er⟩
      rcases Nat.lt_trichotomy j k with hlt | heq | hgt
      · exact .inr ⟨0, by simp, by simp, fun a _ _ ha => absurd ha (Nat.not_lt_zero _), by simpa using hlt⟩
      · subst heq
        exact (ih h' er).cons j
      · rw [hfst k hk hgt] at fk
        cases fk

end Go.Proofs.YthplaillblmgfaaGreatDoor


namespace Go.Proofs.YthplaillblmgfaaGreatDoor
open Go.Sim

theorem word_big {b : Nat} (h : b < 4294967296) : b < bigW := lt_bigW (Nat.lt_of_lt_of_le h (by decide))

theorem sgn_neg {a b : Nat} : sgn a b < 0 ↔ a < b := by
  unfold sgn
  constructor
  · intro h
    apply Classical.byContradiction
    intro hn
    rw [if_neg hn] at h
    split at h <;> omega
  · intro h; rw [if_pos h]; decide

theorem C147 {va vb : Value} {a b : Nat} {h : Heap} {K : Value → Heap → Prop} (ha : MagV h va a) (hb : MagV h vb b) (la : a < bigW) (b0 : 0 < b) (lb : b < 4294967296) (hk : ∀ q r h', EX h h' → MagV h' q (a / b) → MagV h' r (a % b) → K (.tuple #[q, r]) h') :
    CallP Tryz.prog 147 [va, vb] h K := by
  refine f147 ?_
  unfold T147
  refine C86 ha hb la (word_big lb) ?_
  simp only [bin_lss, OP_some, IfP_dec]
  refine ⟨fun hlt => ?_, fun hge => ?_⟩
  · have hab := sgn_neg.1 hlt
    have ha0 := ha
    obtain ⟨xs, d, c, rfl⟩ := ha
    obtain ⟨s1, s2⟩ := d.cells
    have lx := canW_len c la
    have hq : ∀ g, MagV g (.slice none 0 0) (val 4294967296 xs / b) := fun g => ⟨[], DS.nil _ _ _, ⟨fun x hx => by simp at hx, by simp⟩, by rw [Nat.div_eq_of_lt hab]; rfl⟩
    by_cases h0 : xs.length = 0
    · have e : iApp 116 1 4 h (.slice none 0 0) va = some (.slice none 0 0, h) := by
        simp only [iApp, s1, s2]
        rw [if_pos h0]
      simp only [e, OH_some]
      have : xs = [] := List.length_eq_zero_iff.1 h0
      subst this
      exact hk _ _ h (EX.refl h) (hq h) ⟨[], DS.nil _ _ _, c, by rw [Nat.mod_eq_of_lt hab]⟩
    · have e : iApp 116 1 4 h (.slice none 0 0) va = some (sl 116 h.length 0 xs.length, h ++ [.arr 116 (xs.map fun d : Nat => Value.int .u32 (d : Int))]) := by
        simp only [iApp, s1, s2]
        rw [if_neg h0, if_pos ⟨by omega, by unfold maxLen; omega⟩]
      simp only [e, OH_some]
      refine hk _ _ _ (EX.append _ _) (hq _) ⟨xs, .inr ⟨h.length, rfl, .inr ⟨[], ?_⟩⟩, c, by rw [Nat.mod_eq_of_lt hab]⟩
      simp [objCells]
  · have hab : b ≤ a := by
      apply Classical.byContradiction
      intro hc
      exact hge (sgn_neg.2 (by omega))
    obtain ⟨ys, d, c, hy⟩ := id hb
    have hlen : ys.length = 1 := by
      have h1 : ys.length ≤ 1 := c.len (k := 1) (by decide) (by rw [hy]; simpa using lb)
      have h2 : ys ≠ [] := by rintro rfl; simp [val] at hy; omega
      have : 0 < ys.length := List.length_pos_iff.2 h2
      omega
    obtain ⟨y, rfl⟩ : ∃ y, ys = [y] := by
      match ys, hlen with
      | [y], _ => exact ⟨y, rfl⟩
    have hyb : y = b := by simpa [val] using hy
    subst hyb
    obtain ⟨i, g1, g2⟩ := d.get (j := 0) (by simp)
    have g1' : iAdrSl 1 vb (.int .i64 (0)) = some (pt i 0) := g1
    have lenb : iLenSl vb = some (I 1) := d.len
    simp only [lenb, OP_some, bin_eql, decide_true, IfP_true, g1', g2, List.getElem_cons_zero]
    refine C116 ha la b0 lb ?_
    intro q h2 x2 hq
    have mk : ∀ (g : Heap) (r : Nat), iMkSl 116 1 [(.int .u32 (0))] g [(0, 1, .int .u32 (r : Int))] = some (sl 116 g.length 0 1, g ++ [.arr 116 [.int .u32 (r : Int)]]) := fun _ _ => rfl
    simp only [ext_tuple, pair0, pair1, OP_some, mk, OH_some]
    have x3 : EX h2 (h2 ++ [.arr 116 [.int .u32 ((a % y : Nat) : Int)]]) := EX.append _ _
    have dr : DS 116 .u32 (h2 ++ [.arr 116 [.int .u32 ((a % y : Nat) : Int)]]) (sl 116 h2.length 0 1) [a % y] := .inr ⟨h2.length, rfl, .inr ⟨[], by simp [objCells]⟩⟩
    have hm : a % y < y := Nat.mod_lt _ b0
    refine C83 dr (fun x hx => by rw [List.mem_singleton.1 hx]; omega) (by simp) ?_
    intro v' hv'
    have e : val 4294967296 [a % y] = a % y := by simp [val]
    rw [e] at hv'
    exact hk _ _ _ (x2.trans x3) (hq.mono x3) hv'

theorem C149 {va : Value} {a : Int} {h : Heap} {K : Value → Heap → Prop} (ha : IntV h va a) (hk : ∀ h', EX h h' → K (I (if a = 0 then 0 else if a < 0 then -1 else 1)) h') : CallP Tryz.prog 149 [va] h K := by
  obtain ⟨v, rfl, hv⟩ := ha
  refine f149 ?_
  have e1 : iBox 81 h (.agg #[B (decide (a < 0)), v]) = some (pt h.length 0, h ++ [.arr 81 [B (decide (a < 0)), v]]) := rfl
  have x1 : EX h (h ++ [.arr 81 [B (decide (a < 0)), v]]) := EX.append _ _
  have l1 : iLoad false 1 (h ++ [IObj.arr 81 [B (decide (a < 0)), v]]) (pt h.length 1) = some v := load_last rfl
  have l0 : iLoad false 1 (h ++ [IObj.arr 81 [B (decide (a < 0)), v]]) (pt h.length 0) = some (B (decide (a < 0))) := load_last rfl
  obtain ⟨l, e2, e3⟩ := hv.len0
  simp only [T149, e1, OH_some, fadr_pt, Nat.zero_add, Nat.add_zero, OP_some, l1, l0, e2, bin_eql, IfP_dec]
  refine ⟨fun hz => ?_, fun hz => ⟨fun hn => ?_, fun hn => ?_⟩⟩
  · have := hk _ x1
    rw [if_pos (by omega)] at this
    exact this
  · have := hk _ x1
    rw [if_neg (by omega), if_pos hn] at this
    exact this
  · have := hk _ x1
    rw [if_neg (by omega), if_neg hn] at this
    exact this

theorem C122 {va vb : Value} {a b : Int} {h : Heap} {K : Value → Heap → Prop} (ha : IntV h va a) (hb : IntV h vb b) (la : a.natAbs < bigW) (lb : b.natAbs < bigW) (hk : ∀ h', EX h h' → K (I (if a - b = 0 then 0 else if a - b < 0 then -1 else 1)) h') : CallP Tryz.prog 122 [va, vb] h K := by
  have ha0 := ha
  have hb0 := hb
  obtain ⟨v, rfl, hv⟩ := ha
  obtain ⟨w, rfl, hw⟩ := hb
  refine f122 ?_
  have e1 : ∀ (g : Heap) (s : Bool) (v : Value), iBox 81 g (.agg #[B s, v]) = some (pt g.length 0, g ++ [.arr 81 [B s, v]]) := fun _ _ _ => rfl
  simp only [T122, e1, OH_some]
  have g0 : (h ++ [IObj.arr 81 [B (decide (a < 0)), v]] ++ [IObj.arr 81 [B (decide (b < 0)), w]])[h.length]? = some (.arr 81 [B (decide (a < 0)), v]) := by simp
  have g1 : (h ++ [IObj.arr 81 [B (decide (a < 0)), v]] ++ [IObj.arr 81 [B (decide (b < 0)), w]])[(h ++ [IObj.arr 81 [B (decide (a < 0)), v]]).length]? = some (.arr 81 [B (decide (b < 0)), w]) := get_last
  have x1 : EX h (h ++ [IObj.arr 81 [B (decide (a < 0)), v]] ++ [IObj.arr 81 [B (decide (b < 0)), w]]) := (EX.append _ _).push _
  generalize h ++ [IObj.arr 81 [B (decide (a < 0)), v]] ++ [IObj.arr 81 [B (decide (b < 0)), w]] = h1 at g0 g1 x1 ⊢
  rw [load2 g0, load2 g1]
  simp only [OP_some]
  refine C148 (ha0.mono x1) (hb0.mono x1) la lb ?_
  intro r h2 x2 hr
  exact C149 hr fun h3 x3 => hk h3 (x1.trans (x2.trans x3))

theorem IntV.nat {h : Heap} {v : Value} {n : Nat} (p : MagV h v n) : IntV h (.agg #[B false, v]) (n : Int) := ⟨v, by rw [decide_eq_false (by omega)], by rwa [Int.natAbs_natCast]⟩

theorem C121 {va vb : Value} {a b : Int} {h : Heap} {K : Value → Heap → Prop} (ha : IntV h va a) (hb : IntV h vb b) (la : a.natAbs < bigW) (lb : b.natAbs < 4294967296) (hk : ∀ r h', EX h h' → IntV h' r (Nat.gcd a.natAbs b.natAbs : Nat) → K r h') : CallP Tryz.prog 121 [va, vb] h K := by
  obtain ⟨v, rfl, hv⟩ := ha
  obtain ⟨w, rfl, hw⟩ := hb
  refine f121 ?_
  unfold T121
  refine box2 ?_
  intro h3 x
  simp only [fadr_pt, Nat.zero_add, OP_some, x.a1, x.b1, true_and]
  refine loopL (σ := Value × Value × Nat × Nat × Heap) (fun q => [q.1, q.2.1]) (fun q => q.2.2.2.2) (fun q => (MagV q.2.2.2.2 q.1 q.2.2.1 ∧ MagV q.2.2.2.2 q.2.1 q.2.2.2.1) ∧ (q.2.2.1 < bigW ∧ q.2.2.2.1 < 4294967296) ∧ Nat.gcd q.2.2.1 q.2.2.2.1 = Nat.gcd a.natAbs b.natAbs ∧ EX h3 q.2.2.2.2) (fun q => q.2.2.2.1)
    (v, w, a.natAbs, b.natAbs, h3) rfl rfl ⟨⟨hv.mono x.ex, hw.mono x.ex⟩, ⟨la, lb⟩, rfl, EX.refl _⟩ ?_
  rintro ⟨vx, vy, m, n, g⟩ ⟨⟨hm, hn⟩, ⟨lm, ln⟩, hg, xg⟩ L hL
  simp only at hm hn lm ln hg xg hL ⊢
  rw [q121z5]
  obtain ⟨l, e1, e2⟩ := hn.len0
  simp only [e1, OP_some, bin_gtr, IfP_dec]
  refine ⟨fun hp => ?_, fun hz => ?_⟩
  · have n0 : 0 < n := e2.1 (by omega)
    refine C147 hm hn lm n0 ln ?_
    intro q r g2 x2 hq hr
    simp only [ext_tuple, pair0, pair1, OP_some, true_and]
    have hmod : m % n < n := Nat.mod_lt _ n0
    refine hL (vy, r, n, m % n, g2) ⟨⟨hn.mono x2, hr⟩, ⟨word_big ln, by show m % n < _; omega⟩, ?_, xg.trans x2⟩ hmod
    show Nat.gcd n (m % n) = _
    rw [← hg, Nat.gcd_comm m n, Nat.gcd_rec n m, Nat.gcd_comm]
  · have n0 : n = 0 := by
      apply Classical.byContradiction
      intro hne
      have := e2.2 (by omega)
      omega
    subst n0
    rw [q121z10]
    rw [Nat.gcd_zero_right] at hg
    refine C82 hm ?_
    intro h5 x5
    have g' := (xg.trans x5).get x.out
    rw [Bool.false_and]
    refine fin2 g' (hk _ _ (((x.ex.trans xg).trans x5).set (by omega) _) ?_)
    rw [← hg]
    exact (IntV.nat (hm.mono x5)).setB g' _

end Go.Proofs.YthplaillblmgfaaGreatDoor


namespace Go.Proofs.YthplaillblmgfaaGreatDoor
open Go.Sim

theorem C123 {va vb : Value} {a b : Int} {h : Heap} {K : Value → Heap → Prop} (ha : IntV h va a) (hb : IntV h vb b) (la : a.natAbs < bigW) (b0 : 0 < b) (lb : b.natAbs < 4294967296) (hd : b ∣ a) (hk : ∀ r s h', EX h h' → IntV h' r (a / b) → IntV h' s 0 → K (.tuple #[r, s]) h') : CallP Tryz.prog 123 [va, vb] h K := by
  obtain ⟨v, rfl, hv⟩ := ha
  obtain ⟨w, rfl, hw⟩ := hb
  have hsb : decide (b < 0) = false := decide_eq_false (by omega)
  obtain ⟨c, rfl⟩ := hd
  have hdiv : b * c / b = c := Int.mul_ediv_cancel_left c (by omega)
  rw [hdiv] at hk
  have hab : (b * c).natAbs = b.natAbs * c.natAbs := Int.natAbs_mul b c
  have hb0 : 0 < b.natAbs := by omega
  have hq : (b * c).natAbs / b.natAbs = c.natAbs := by rw [hab]; exact Nat.mul_div_cancel_left _ hb0
  have hr : (b * c).natAbs % b.natAbs = 0 := by rw [hab]; exact Nat.mul_mod_right _ _
  have hneg : (decide (b * c < 0) && decide (0 < c.natAbs)) = decide (c < 0) := by
    by_cases hc : c < 0
    · rw [decide_eq_true hc, decide_eq_true (show 0 < c.natAbs by omega), decide_eq_true (Int.mul_neg_of_pos_of_neg b0 hc)]; rfl
    · have : 0 ≤ b * c := Int.mul_nonneg (by omega) (by omega)
      rw [decide_eq_false hc, decide_eq_false (by omega)]; rfl
  refine f123 ?_
  have e1 : ∀ (g : Heap) (s : Bool) (v : Value), iBox 81 g (.agg #[B s, v]) = some (pt g.length 0, g ++ [.arr 81 [B s, v]]) := fun _ _ _ => rfl
  have e2 : ∀ (g : Heap), iAlloc 81 [(.bool false), (.slice none 0 0)] g = some (pt g.length 0, g ++ [.arr 81 [(.bool false), (.slice none 0 0)]]) := fun _ => rfl
  have ob : ∀ {g : Heap} {i : Nat}, g[i]? = some (.arr 81 [(.bool false), (.slice none 0 0)]) → iObj g (pt i 0) = some (.agg #[.int .i64 81, .bool false, .slice none 0 0]) := by
    intro g i hi
    simp [iObj, idOf, hi, encObj, noId]
  rw [hsb]
  simp only [T123, e1, e2, OH_some]
  have q0 : EX h (h ++ [.arr 81 [B (decide (b * c < 0)), v]]) := EX.append _ _
  have p0 : (h ++ [IObj.arr 81 [B (decide (b * c < 0)), v]])[h.length]? = some (.arr 81 [B (decide (b * c < 0)), v]) := get_last
  generalize h ++ [IObj.arr 81 [B (decide (b * c < 0)), v]] = ga at q0 p0 ⊢
  have q1 : EX ga (ga ++ [.arr 81 [B false, w]]) := EX.append _ _
  have p1 : (ga ++ [IObj.arr 81 [B false, w]])[ga.length]? = some (.arr 81 [B false, w]) := get_last
  generalize ga ++ [IObj.arr 81 [B false, w]] = gb at q1 p1 ⊢
  have q2 : EX gb (gb ++ [.arr 81 [(.bool false), (.slice none 0 0)]]) := EX.append _ _
  have p2 : (gb ++ [IObj.arr 81 [(.bool false), (.slice none 0 0)]])[gb.length]? = some (.arr 81 [(.bool false), (.slice none 0 0)]) := get_last
  generalize gb ++ [IObj.arr 81 [(.bool false), (.slice none 0 0)]] = gc at q2 p2 ⊢
  have q3 : EX gc (gc ++ [.arr 81 [(.bool false), (.slice none 0 0)]]) := EX.append _ _
  have p3 : (gc ++ [IObj.arr 81 [(.bool false), (.slice none 0 0)]])[gc.length]? = some (.arr 81 [(.bool false), (.slice none 0 0)]) := get_last
  generalize gc ++ [IObj.arr 81 [(.bool false), (.slice none 0 0)]] = gd at q3 p3 ⊢
  have q13 := q1.trans (q2.trans q3)
  have q03 := q0.trans q13
  have k0 := q13.get p0
  have k1 := (q2.trans q3).get p1
  have k2 := q3.get p2
  have la1 : ∀ {g : Heap}, EX gd g → iLoad false 1 g (pt h.length 1) = some v := fun x => by simp [iLoad, objCells, x.get k0, iPart]
  have la0 : ∀ {g : Heap}, EX gd g → iLoad false 1 g (pt h.length 0) = some (B (decide (b * c < 0))) := fun x => by simp [iLoad, objCells, x.get k0, iPart]
  have lb1 : ∀ {g : Heap}, EX gd g → iLoad false 1 g (pt ga.length 1) = some w := fun x => by simp [iLoad, objCells, x.get k1, iPart]
  have lb0 : ∀ {g : Heap}, EX gd g → iLoad false 1 g (pt ga.length 0) = some (B false) := fun x => by simp [iLoad, objCells, x.get k1, iPart]
  simp only [fadr_pt, Nat.zero_add, Nat.add_zero, OP_some, la1 (EX.refl gd), lb1 (EX.refl gd)]
  refine C147 (hv.mono q03) (hw.mono q03) la hb0 lb ?_
  intro q r g5 x5 mq mr
  rw [hq] at mq
  rw [hr] at mr
  simp only [ext_tuple, pair0, pair1, OP_some]
  have y1 : EX g5 (g5 ++ [.arr 81 [(.bool false), (.slice none 0 0)]]) := EX.append _ _
  have s1 : (g5 ++ [IObj.arr 81 [(.bool false), (.slice none 0 0)]])[g5.length]? = some (.arr 81 [(.bool false), (.slice none 0 0)]) := get_last
  have sl1 : (g5 ++ [IObj.arr 81 [(.bool false), (.slice none 0 0)]]).length = g5.length + 1 := by simp
  generalize g5 ++ [IObj.arr 81 [(.bool false), (.slice none 0 0)]] = g6 at y1 s1 sl1 ⊢
  have y2 : EX g6 (g6 ++ [.arr 81 [(.bool false), (.slice none 0 0)]]) := EX.append _ _
  have s2 : (g6 ++ [IObj.arr 81 [(.bool false), (.slice none 0 0)]])[g6.length]? = some (.arr 81 [(.bool false), (.slice none 0 0)]) := get_last
  generalize g6 ++ [IObj.arr 81 [(.bool false), (.slice none 0 0)]] = g7 at y2 s2 ⊢
  have s1' := y2.get s1
  have y12 := y1.trans y2
  have z5 := x5
  have z6 := x5.trans y1
  have z7 := x5.trans y12
  simp only [ob s1, ob s1', ob s2, OP_some, true_and, la0 z5, la0 z6, la0 z7, lb0 z5, lb0 z6, lb0 z7, eqb_bool, if_true]
  have hx : (!(decide (b * c < 0) == false)) = decide (b * c < 0) := by cases decide (b * c < 0) <;> rfl
  rw [hx]
  refine C82 (mq.mono y12) ?_
  intro g8 x8
  rw [hneg]
  simp only [ob (x8.get s1'), ob (x8.get s2), true_and, la0 (z7.trans x8), OP_some]
  refine C82 ((mr.mono y12).mono x8) ?_
  intro g9 x9
  have x89 := x8.trans x9
  have t1 := x89.get s1'
  have t2 := x89.get s2
  have hne : g5.length ≠ g6.length := by omega
  simp only [ob t1, ob t2, true_and, decide_eq_false (show ¬ (0 < 0) by decide), Bool.and_false]
  rw [store2 t1]
  simp only [OH_some]
  have t2' : (g9.set g5.length (.arr 81 [B (decide (c < 0)), q]))[g6.length]? = some (.arr 81 [(.bool false), (.slice none 0 0)]) := by rw [List.getElem?_set_ne hne]; exact t2
  rw [store2 t2']
  simp only [OH_some]
  obtain ⟨l, l1, l2⟩ := mr.len0
  have l0 : l = 0 := by
    apply Classical.byContradiction
    intro hc
    have := l2.1 (by omega)
    omega
  subst l0
  simp only [l1, OP_some, bin_gtr]
  rw [decide_eq_false (show ¬ ((0 : Int) < ((0 : Nat) : Int)) by decide)]
  rw [q123z7]
  simp only [GdP_ft]
  rw [q123z9]
  have pk : iPick (B false) undef (.bool false) = some (B false) := rfl
  simp only [pk, OP_some, IfP_false]
  rw [q123z10]
  have u1 : ((g9.set g5.length (.arr 81 [B (decide (c < 0)), q])).set g6.length (.arr 81 [B false, r]))[g5.length]? = some (.arr 81 [B (decide (c < 0)), q]) := by
    rw [List.getElem?_set_ne (fun e => hne e.symm)]; exact set_get t1
  have u2 : ((g9.set g5.length (.arr 81 [B (decide (c < 0)), q])).set g6.length (.arr 81 [B false, r]))[g6.length]? = some (.arr 81 [B false, r]) := set_get t2'
  have hgd : gd.length ≤ g5.length := x5.1
  have hx0 : EX h ((g9.set g5.length (.arr 81 [B (decide (c < 0)), q])).set g6.length (.arr 81 [B false, r])) :=
    (((q03.trans z7).trans x89).set (by have := q03.1; omega) _).set (by have := q03.1; omega) _
  have lgb : gb.length < gd.length := by
    have := (List.getElem?_eq_some_iff.1 k2).1; exact this
  have lgc : gc.length < gd.length := (List.getElem?_eq_some_iff.1 p3).1
  have w2 : ((g9.set g5.length (.arr 81 [B (decide (c < 0)), q])).set g6.length (.arr 81 [B false, r]))[gb.length]? = some (.arr 81 [(.bool false), (.slice none 0 0)]) := by
    rw [List.getElem?_set_ne (by omega), List.getElem?_set_ne (by omega)]; exact (z7.trans x89).get k2
  have w3 : ((g9.set g5.length (.arr 81 [B (decide (c < 0)), q])).set g6.length (.arr 81 [B false, r]))[gc.length]? = some (.arr 81 [(.bool false), (.slice none 0 0)]) := by
    rw [List.getElem?_set_ne (by omega), List.getElem?_set_ne (by omega)]; exact (z7.trans x89).get p3
  have mqf : MagV ((g9.set g5.length (.arr 81 [B (decide (c < 0)), q])).set g6.length (.arr 81 [B false, r])) q c.natAbs := (((mq.mono y12).mono x89).setB t1 _).setB t2' _
  have mrf : MagV ((g9.set g5.length (.arr 81 [B (decide (c < 0)), q])).set g6.length (.arr 81 [B false, r])) r 0 := (((mr.mono y12).mono x89).setB t1 _).setB t2' _
  generalize (g9.set g5.length (.arr 81 [B (decide (c < 0)), q])).set g6.length (.arr 81 [B false, r]) = gz at u1 u2 hx0 w2 w3 mqf mrf ⊢
  rw [load2 u1, load2 u2]
  simp only [OP_some, true_and]
  rw [store2 w2]
  simp only [OH_some]
  have hbc : gb.length ≠ gc.length := by
    have := (List.getElem?_eq_some_iff.1 p2).1; omega
  have u2' : (gz.set gb.length (.arr 81 [B (decide (c < 0)), q]))[g6.length]? = some (.arr 81 [B false, r]) := by rw [List.getElem?_set_ne (by omega)]; exact u2
  have w3' : (gz.set gb.length (.arr 81 [B (decide (c < 0)), q]))[gc.length]? = some (.arr 81 [(.bool false), (.slice none 0 0)]) := by rw [List.getElem?_set_ne hbc]; exact w3
  rw [load2 u2', store2 w3']
  simp only [true_and, OH_some]
  have n2 : ((gz.set gb.length (.arr 81 [B (decide (c < 0)), q])).set gc.length (.arr 81 [B false, r]))[gb.length]? = some (.arr 81 [B (decide (c < 0)), q]) := by
    rw [List.getElem?_set_ne (fun e => hbc e.symm)]; exact set_get w2
  rw [load2 n2, load2 (set_get w3')]
  simp only [OP_some]
  have hlb : h.length ≤ gb.length := (q0.trans q1).1
  refine hk _ _ _ ((hx0.set hlb _).set (by have := (List.getElem?_eq_some_iff.1 p2).1; omega) _) ⟨q, rfl, (mqf.setB w2 _).setB w3' _⟩ ⟨r, rfl, (mrf.setB w2 _).setB w3' _⟩

theorem RatV.mono {h h' : Heap} {v : Value} {a b : Int} (x : EX h h') (p : RatV h v a b) : RatV h' v a b := let ⟨u, w, e, m, n⟩ := p; ⟨u, w, e, m.mono x, n.mono x⟩
theorem RatV.setB {h : Heap} {v : Value} {a b : Int} {j : Nat} {e : TypeId} {s : Bool} {r : List Value} (p : RatV h v a b) (hj : h[j]? = some (.arr e (.bool s :: r))) (o : IObj) : RatV (h.set j o) v a b :=
  let ⟨u, w, e, m, n⟩ := p; ⟨u, w, e, m.setB hj o, n.setB hj o⟩

theorem endR {h h' : Heap} {j : Nat} {va vb : Value} {a b : Int} {K : Value → Heap → Prop} (ha : IntV h' va a) (hb : IntV h' vb b) (x : EX h h') (hj : h.length ≤ j) (hg : h'[j]? = some (.arr 86 z4)) (hk : ∀ r h', EX h h' → RatV h' r a b → K r h') :
    OP (iBuild [(.bool false), (.slice none 0 0), (.bool false), (.slice none 0 0)] [(0, 2, va), (2, 2, vb)]) fun x25 => OH (oStore 4 h' (pt j 0) x25) fun _ h_6 => OP (iLoad true 4 h_6 (pt j 0)) fun r0 => K r0 h_6 := by
  obtain ⟨v, rfl, hv⟩ := ha
  obtain ⟨w, rfl, hw⟩ := hb
  obtain ⟨xs, dx, _⟩ := id hv
  obtain ⟨ys, dy, _⟩ := id hw
  rw [build4 dx dy]
  simp only [OP_some]
  exact fin4 hg (hk _ _ (x.set hj _) ⟨v, w, rfl, hv.setB hg _, hw.setB hg _⟩)

theorem C67 {n : Int} {h : Heap} {K : Value → Heap → Prop} (h1 : -9223372036854775808 ≤ n) (h2 : n < 9223372036854775808) (hk : ∀ r h', EX h h' → RatV h' r n 1 → K r h') : CallP Tryz.prog 67 [I n] h K := by
  refine f67 ?_
  have e1 : iAlloc 86 [(.bool false), (.slice none 0 0), (.bool false), (.slice none 0 0)] h = some (pt h.length 0, h ++ [.arr 86 z4]) := rfl
  simp only [T67, e1, OH_some]
  have x0 : EX h (h ++ [.arr 86 z4]) := EX.append _ _
  have g0 : (h ++ [IObj.arr 86 z4])[h.length]? = some (.arr 86 z4) := get_last
  generalize h ++ [IObj.arr 86 z4] = ga at x0 g0 ⊢
  refine C46 h1 h2 ?_
  intro r h3 x3 i3
  refine C46 (by decide) (by decide) ?_
  intro s h4 x4 i4
  exact endR (i3.mono x4) i4 (x0.trans (x3.trans x4)) (Nat.le_refl _) ((x3.trans x4).get g0) hk

theorem gcd_small {a b : Int} (b0 : 0 < b) : 0 < (Nat.gcd a.natAbs b.natAbs : Int) ∧ (Nat.gcd a.natAbs b.natAbs : Int) ≤ b := by
  have h1 : 0 < Nat.gcd a.natAbs b.natAbs := Nat.gcd_pos_of_pos_right _ (by omega)
  have h2 : Nat.gcd a.natAbs b.natAbs ≤ b.natAbs := Nat.gcd_le_right _ (by omega)
  omega

theorem C104 {va vb : Value} {a b : Int} {h : Heap} {K : Value → Heap → Prop} (ha : IntV h va a) (hb : IntV h vb b) (la : a.natAbs < bigW) (b0 : 0 < b) (lb : b.natAbs < 4294967296)
    (hk : ∀ r h', EX h h' → RatV h' r (a / (Nat.gcd a.natAbs b.natAbs : Int)) (b / (Nat.gcd a.natAbs b.natAbs : Int)) → K r h') : CallP Tryz.prog 104 [va, vb] h K := by
  obtain ⟨v, rfl, hv⟩ := ha
  obtain ⟨w, rfl, hw⟩ := hb
  have hsb : decide (b < 0) = false := decide_eq_false (by omega)
  obtain ⟨g1p, g1le⟩ := gcd_small (a := a) b0
  have hda : (Nat.gcd a.natAbs b.natAbs : Int) ∣ a := Int.gcd_dvd_left ..
  have hdb : (Nat.gcd a.natAbs b.natAbs : Int) ∣ b := Int.gcd_dvd_right ..
  refine f104 ?_
  have e1 : ∀ (g : Heap) (s : Bool) (v : Value), iBox 81 g (.agg #[B s, v]) = some (pt g.length 0, g ++ [.arr 81 [B s, v]]) := fun _ _ _ => rfl
  have e2 : ∀ (g : Heap), iAlloc 81 [(.bool false), (.slice none 0 0)] g = some (pt g.length 0, g ++ [.arr 81 [(.bool false), (.slice none 0 0)]]) := fun _ => rfl
  have e3 : ∀ (g : Heap), iAlloc 86 [(.bool false), (.slice none 0 0), (.bool false), (.slice none 0 0)] g = some (pt g.length 0, g ++ [.arr 86 z4]) := fun _ => rfl
  simp only [T104, e1, e3, OH_some]
  have q0 : EX h (h ++ [.arr 81 [B (decide (a < 0)), v]]) := EX.append _ _
  have p0 : (h ++ [IObj.arr 81 [B (decide (a < 0)), v]])[h.length]? = some (.arr 81 [B (decide (a < 0)), v]) := get_last
  generalize h ++ [IObj.arr 81 [B (decide (a < 0)), v]] = ga at q0 p0 ⊢
  have q1 : EX ga (ga ++ [.arr 81 [B (decide (b < 0)), w]]) := EX.append _ _
  have p1 : (ga ++ [IObj.arr 81 [B (decide (b < 0)), w]])[ga.length]? = some (.arr 81 [B (decide (b < 0)), w]) := get_last
  generalize ga ++ [IObj.arr 81 [B (decide (b < 0)), w]] = gb at q1 p1 ⊢
  have q2 : EX gb (gb ++ [.arr 86 z4]) := EX.append _ _
  have p2 : (gb ++ [IObj.arr 86 z4])[gb.length]? = some (.arr 86 z4) := get_last
  generalize gb ++ [IObj.arr 86 z4] = gc at q2 p2 ⊢
  have k0 := (q1.trans q2).get p0
  have k1 := q2.get p1
  have x0 := q0.trans (q1.trans q2)
  have hlb : h.length ≤ gb.length := (q0.trans q1).1
  have ldn : ∀ {g : Heap}, EX gc g → iLoad true 2 g (pt h.length 0) = some (.agg #[B (decide (a < 0)), v]) := fun x => load2 (x.get k0)
  have ldd : ∀ {g : Heap}, EX gc g → iLoad true 2 g (pt ga.length 0) = some (.agg #[B (decide (b < 0)), w]) := fun x => load2 (x.get k1)
  have iva : ∀ {g : Heap}, EX gc g → IntV g (.agg #[B (decide (a < 0)), v]) a := fun x => ⟨v, rfl, hv.mono (x0.trans x)⟩
  have ivb : ∀ {g : Heap}, EX gc g → IntV g (.agg #[B (decide (b < 0)), w]) b := fun x => ⟨w, rfl, hw.mono (x0.trans x)⟩
  have l1 : iLoad false 1 gc (pt ga.length 0) = some (B (decide (b < 0))) := by simp [iLoad, objCells, k1, iPart]
  simp only [fadr_pt, Nat.add_zero, OP_some, l1]
  rw [hsb]
  simp only [IfP_false]
  rw [q104z4]
  rw [ldn (EX.refl gc), ldd (EX.refl gc)]
  simp only [OP_some]
  refine C121 (iva (EX.refl gc)) (ivb (EX.refl gc)) la lb ?_
  intro r g3 x3 ir
  simp only [e2, OH_some]
  have y4 : EX g3 (g3 ++ [.arr 81 [(.bool false), (.slice none 0 0)]]) := EX.append _ _
  have s4 : (g3 ++ [IObj.arr 81 [(.bool false), (.slice none 0 0)]])[g3.length]? = some (.arr 81 [(.bool false), (.slice none 0 0)]) := get_last
  generalize g3 ++ [IObj.arr 81 [(.bool false), (.slice none 0 0)]] = g4 at y4 s4 ⊢
  obtain ⟨u, rfl, hu⟩ := ir
  have hu4 := (hu.mono y4).setB s4 (.arr 81 [B (decide ((Nat.gcd a.natAbs b.natAbs : Int) < 0)), u])
  rw [store2 s4]
  simp only [OH_some]
  have hgl : gc.length ≤ g3.length := x3.1
  have x5 : EX gc (g4.set g3.length (.arr 81 [B (decide ((Nat.gcd a.natAbs b.natAbs : Int) < 0)), u])) := (x3.trans y4).set hgl _
  have s5 : (g4.set g3.length (.arr 81 [B (decide ((Nat.gcd a.natAbs b.natAbs : Int) < 0)), u]))[g3.length]? = some (.arr 81 [B (decide ((Nat.gcd a.natAbs b.natAbs : Int) < 0)), u]) := set_get s4
  generalize g4.set g3.length (.arr 81 [B (decide ((Nat.gcd a.natAbs b.natAbs : Int) < 0)), u]) = g5 at x5 s5 hu4 ⊢
  have ig : ∀ {g : Heap}, EX g5 g → IntV g (.agg #[B (decide ((Nat.gcd a.natAbs b.natAbs : Int) < 0)), u]) (Nat.gcd a.natAbs b.natAbs : Int) := fun x => ⟨u, rfl, hu4.mono x⟩
  rw [load2 s5]
  simp only [OP_some, true_and]
  refine C46 (by decide) (by decide) ?_
  intro one g6 x6 i1
  rw [load2 (x6.get s5)]
  simp only [true_and]
  have lgW : ((Nat.gcd a.natAbs b.natAbs : Int)).natAbs < 4294967296 := by rw [Int.natAbs_natCast]; have := Nat.gcd_le_right a.natAbs (show 0 < b.natAbs by omega); omega
  refine C122 (ig x6) i1 (word_big lgW) (by rw [show (1 : Int).natAbs = 1 from rfl]; exact word_big (by decide)) ?_
  intro g7 x7
  have x57 := x6.trans x7
  have xc7 := x5.trans x57
  simp only [bin_eql, OP_some, IfP_dec]
  refine ⟨fun h1 => ?_, fun h1 => ?_⟩
  · have hg1 : (Nat.gcd a.natAbs b.natAbs : Int) = 1 := by
      split at h1
      · omega
      · split at h1 <;> omega
    rw [ldn xc7, ldd xc7]
    simp only [OP_some]
    rw [hg1, Int.ediv_one, Int.ediv_one] at hk
    exact endR (iva xc7) (ivb xc7) (x0.trans xc7) hlb (xc7.get p2) hk
  · rw [ldn xc7, load2 (x57.get s5)]
    simp only [OP_some]
    refine C123 (iva xc7) (ig x57) la g1p lgW hda ?_
    intro rn sn g8 x8 irn isn
    simp only [ext_tuple, pair0, pair1, OP_some, e2, OH_some]
    have y9 : EX g8 (g8 ++ [.arr 81 [(.bool false), (.slice none 0 0)]]) := EX.append _ _
    have s9 : (g8 ++ [IObj.arr 81 [(.bool false), (.slice none 0 0)]])[g8.length]? = some (.arr 81 [(.bool false), (.slice none 0 0)]) := get_last
    generalize g8 ++ [IObj.arr 81 [(.bool false), (.slice none 0 0)]] = g9 at y9 s9 ⊢
    have y10 : EX g9 (g9 ++ [.arr 81 [(.bool false), (.slice none 0 0)]]) := EX.append _ _
    have s10 : (g9 ++ [IObj.arr 81 [(.bool false), (.slice none 0 0)]])[g9.length]? = some (.arr 81 [(.bool false), (.slice none 0 0)]) := get_last
    generalize g9 ++ [IObj.arr 81 [(.bool false), (.slice none 0 0)]] = g10 at y10 s10 ⊢
    have s9' := y10.get s9
    obtain ⟨qn, rfl, hqn⟩ := irn
    obtain ⟨zn, rfl, hzn⟩ := isn
    have h98 : g8.length ≠ g9.length := by have := (List.getElem?_eq_some_iff.1 s9).1; omega
    rw [store2 s9']
    simp only [OH_some]
    have t10 : (g10.set g8.length (.arr 81 [B (decide (a / (Nat.gcd a.natAbs b.natAbs : Int) < 0)), qn]))[g9.length]? = some (.arr 81 [(.bool false), (.slice none 0 0)]) := by rw [List.getElem?_set_ne h98]; exact s10
    have t9 : (g10.set g8.length (.arr 81 [B (decide (a / (Nat.gcd a.natAbs b.natAbs : Int) < 0)), qn]))[g8.length]? = some (.arr 81 [B (decide (a / (Nat.gcd a.natAbs b.natAbs : Int) < 0)), qn]) := set_get s9'
    have x810 := y9.trans y10
    have hqn2 := (hqn.mono x810).setB s9' (.arr 81 [B (decide (a / (Nat.gcd a.natAbs b.natAbs : Int) < 0)), qn])
    have xc8 := xc7.trans x8
    have x58 := x57.trans x8
    have xs1 : EX g8 (g10.set g8.length (.arr 81 [B (decide (a / (Nat.gcd a.natAbs b.natAbs : Int) < 0)), qn])) := x810.set (Nat.le_refl _) _
    generalize g10.set g8.length (.arr 81 [B (decide (a / (Nat.gcd a.natAbs b.natAbs : Int) < 0)), qn]) = g11 at t10 t9 hqn2 xs1 ⊢
    rw [store2 t10]
    simp only [OH_some]
    have t9' : (g11.set g9.length (.arr 81 [B (decide ((0 : Int) < 0)), zn]))[g8.length]? = some (.arr 81 [B (decide (a / (Nat.gcd a.natAbs b.natAbs : Int) < 0)), qn]) := by rw [List.getElem?_set_ne (fun e => h98 e.symm)]; exact t9
    have hqn3 := hqn2.setB t10 (.arr 81 [B (decide ((0 : Int) < 0)), zn])
    have h89 : g8.length ≤ g9.length := by have := (List.getElem?_eq_some_iff.1 s9).1; omega
    have xs2 : EX g8 (g11.set g9.length (.arr 81 [B (decide ((0 : Int) < 0)), zn])) := xs1.set h89 _
    generalize g11.set g9.length (.arr 81 [B (decide ((0 : Int) < 0)), zn]) = g12 at t9' hqn3 xs2 ⊢
    rw [ldd (xc8.trans xs2), load2 ((x58.trans xs2).get s5)]
    simp only [OP_some]
    refine C123 (ivb (xc8.trans xs2)) (ig (x58.trans xs2)) (word_big lb) g1p lgW hdb ?_
    intro rd sd g13 x13 ird isd
    simp only [ext_tuple, pair0, pair1, OP_some]
    have y14 : EX g13 (g13 ++ [.arr 81 [(.bool false), (.slice none 0 0)]]) := EX.append _ _
    have s14 : (g13 ++ [IObj.arr 81 [(.bool false), (.slice none 0 0)]])[g13.length]? = some (.arr 81 [(.bool false), (.slice none 0 0)]) := get_last
    generalize g13 ++ [IObj.arr 81 [(.bool false), (.slice none 0 0)]] = g14 at y14 s14 ⊢
    have y15 : EX g14 (g14 ++ [.arr 81 [(.bool false), (.slice none 0 0)]]) := EX.append _ _
    have s15 : (g14 ++ [IObj.arr 81 [(.bool false), (.slice none 0 0)]])[g14.length]? = some (.arr 81 [(.bool false), (.slice none 0 0)]) := get_last
    generalize g14 ++ [IObj.arr 81 [(.bool false), (.slice none 0 0)]] = g15 at y15 s15 ⊢
    have s14' := y15.get s14
    obtain ⟨qd, rfl, hqd⟩ := ird
    obtain ⟨zd, rfl, hzd⟩ := isd
    have h1314 : g13.length ≠ g14.length := by have := (List.getElem?_eq_some_iff.1 s14).1; omega
    rw [store2 s14']
    simp only [OH_some]
    have x1315 := y14.trans y15
    have t15 : (g15.set g13.length (.arr 81 [B (decide (b / (Nat.gcd a.natAbs b.natAbs : Int) < 0)), qd]))[g14.length]? = some (.arr 81 [(.bool false), (.slice none 0 0)]) := by rw [List.getElem?_set_ne h1314]; exact s15
    have t14 : (g15.set g13.length (.arr 81 [B (decide (b / (Nat.gcd a.natAbs b.natAbs : Int) < 0)), qd]))[g13.length]? = some (.arr 81 [B (decide (b / (Nat.gcd a.natAbs b.natAbs : Int) < 0)), qd]) := set_get s14'
    have hqd2 := (hqd.mono x1315).setB s14' (.arr 81 [B (decide (b / (Nat.gcd a.natAbs b.natAbs : Int) < 0)), qd])
    have xs3 : EX g13 (g15.set g13.length (.arr 81 [B (decide (b / (Nat.gcd a.natAbs b.natAbs : Int) < 0)), qd])) := x1315.set (Nat.le_refl _) _
    generalize g15.set g13.length (.arr 81 [B (decide (b / (Nat.gcd a.natAbs b.natAbs : Int) < 0)), qd]) = g16 at t15 t14 hqd2 xs3 ⊢
    rw [store2 t15]
    simp only [OH_some]
    have t14' : (g16.set g14.length (.arr 81 [B (decide ((0 : Int) < 0)), zd]))[g13.length]? = some (.arr 81 [B (decide (b / (Nat.gcd a.natAbs b.natAbs : Int) < 0)), qd]) := by rw [List.getElem?_set_ne (fun e => h1314 e.symm)]; exact t14
    have hqd3 := hqd2.setB t15 (.arr 81 [B (decide ((0 : Int) < 0)), zd])
    have h13 : g13.length ≤ g14.length := by have := (List.getElem?_eq_some_iff.1 s14).1; omega
    have xs4 : EX g13 (g16.set g14.length (.arr 81 [B (decide ((0 : Int) < 0)), zd])) := xs3.set h13 _
    generalize g16.set g14.length (.arr 81 [B (decide ((0 : Int) < 0)), zd]) = g17 at t14' hqd3 xs4 ⊢
    rw [load2 ((x13.trans xs4).get t9'), load2 t14']
    simp only [OP_some]
    have xfin := xc8.trans (xs2.trans (x13.trans xs4))
    exact endR ⟨qn, rfl, hqn3.mono (x13.trans xs4)⟩ ⟨qd, rfl, hqd3⟩ (x0.trans xfin) hlb (xfin.get p2) hk

end Go.Proofs.YthplaillblmgfaaGreatDoor


namespace Go.Proofs.YthplaillblmgfaaGreatDoor
open Go.Sim

theorem C68 {va vb : Value} {a b c d : Int} {h : Heap} {K : Value → Heap → Prop} (ha : RatV h va a b) (hb : RatV h vb c d) (la : a.natAbs < bigW) (lb : b.natAbs < bigW) (lc : c.natAbs < bigW) (ld : d.natAbs < bigW) (lad : (a * d).natAbs < bigW) (b0 : 0 < b * c) (lbc : (b * c).natAbs < 4294967296)
    (hk : ∀ r h', EX h h' → RatV h' r (a * d / (Nat.gcd (a * d).natAbs (b * c).natAbs : Int)) (b * c / (Nat.gcd (a * d).natAbs (b * c).natAbs : Int)) → K r h') : CallP Tryz.prog 68 [va, vb] h K := by
  obtain ⟨u, w, rfl, hu, hw⟩ := ha
  obtain ⟨u2, w2, rfl, hu2, hw2⟩ := hb
  refine f68 ?_
  have e1 : ∀ (g : Heap) (s t : Bool) (v w : Value), iBox 86 g (.agg #[B s, v, B t, w]) = some (pt g.length 0, g ++ [.arr 86 [B s, v, B t, w]]) := fun _ _ _ _ _ => rfl
  have e3 : ∀ (g : Heap), iAlloc 86 [(.bool false), (.slice none 0 0), (.bool false), (.slice none 0 0)] g = some (pt g.length 0, g ++ [.arr 86 z4]) := fun _ => rfl
  simp only [T68, e1, e3, OH_some]
  have q0 : EX h (h ++ [.arr 86 [B (decide (a < 0)), u, B (decide (b < 0)), w]]) := EX.append _ _
  have p0 : (h ++ [IObj.arr 86 [B (decide (a < 0)), u, B (decide (b < 0)), w]])[h.length]? = some (.arr 86 [B (decide (a < 0)), u, B (decide (b < 0)), w]) := get_last
  generalize h ++ [IObj.arr 86 [B (decide (a < 0)), u, B (decide (b < 0)), w]] = ga at q0 p0 ⊢
  have q1 : EX ga (ga ++ [.arr 86 [B (decide (c < 0)), u2, B (decide (d < 0)), w2]]) := EX.append _ _
  have p1 : (ga ++ [IObj.arr 86 [B (decide (c < 0)), u2, B (decide (d < 0)), w2]])[ga.length]? = some (.arr 86 [B (decide (c < 0)), u2, B (decide (d < 0)), w2]) := get_last
  generalize ga ++ [IObj.arr 86 [B (decide (c < 0)), u2, B (decide (d < 0)), w2]] = gb at q1 p1 ⊢
  have q2 : EX gb (gb ++ [.arr 86 z4]) := EX.append _ _
  have p2 : (gb ++ [IObj.arr 86 z4])[gb.length]? = some (.arr 86 z4) := get_last
  generalize gb ++ [IObj.arr 86 z4] = gc at q2 p2 ⊢
  have k0 := (q1.trans q2).get p0
  have k1 := q2.get p1
  have x0 := q0.trans (q1.trans q2)
  have hlb : h.length ≤ gb.length := (q0.trans q1).1
  simp only [fadr_pt, Nat.zero_add, OP_some]
  rw [load4a k0, load4b k1]
  simp only [OP_some, true_and]
  refine C105 (a := a) (b := d) ⟨u, rfl, hu.mono x0⟩ ⟨w2, rfl, hw2.mono x0⟩ la ld ?_
  intro r1 g4 x4 i1
  rw [load4b (x4.get k0), load4a (x4.get k1)]
  simp only [load4b k0, load4a k1, OP_some, true_and]
  refine C105 (a := b) (b := c) ⟨w, rfl, (hw.mono x0).mono x4⟩ ⟨u2, rfl, (hu2.mono x0).mono x4⟩ lb lc ?_
  intro r2 g5 x5 i2
  refine C104 (i1.mono x5) i2 lad b0 lbc ?_
  intro r g6 x6 ir
  have x46 := x4.trans (x5.trans x6)
  have g2 := x46.get p2
  obtain ⟨y, z, rfl, hy, hz⟩ := ir
  exact fin4 g2 (hk _ _ ((x0.trans x46).set hlb _) ⟨y, z, rfl, hy.setB g2 _, hz.setB g2 _⟩)

theorem C89q {u w : Value} {s : Bool} {b : Nat} {h : Heap} {K : Value → Heap → Prop} (hw : MagV h w b) (lb : b < bigW) (hk : ∀ h', EX h h' → K (B (decide (b = 1))) h') : CallP Tryz.prog 89 [.agg #[B s, u, B false, w]] h K := by
  by_cases h1 : b = 1
  · subst h1
    exact C89 hw hk
  rw [decide_eq_false h1] at hk
  refine f89 ?_
  have e1 : iBox 86 h (.agg #[B s, u, B false, w]) = some (pt h.length 0, h ++ [.arr 86 [B s, u, B false, w]]) := rfl
  simp only [T89, e1, OH_some]
  have x1 : EX h (h ++ [IObj.arr 86 [B s, u, B false, w]]) := EX.append _ _
  have l3 : iLoad false 1 (h ++ [IObj.arr 86 [B s, u, B false, w]]) (pt h.length 3) = some w := load_last rfl
  obtain ⟨xs, dx, cx, vx⟩ := hw.mono x1
  simp only [fadr_pt, Nat.zero_add, OP_some, l3, dx.len, bin_eql]
  by_cases hl : xs.length = 1
  · obtain ⟨y, rfl⟩ : ∃ y, xs = [y] := by
      match xs, hl with
      | [y], _ => exact ⟨y, rfl⟩
    have hy : y = b := by simpa [val] using vx
    subst hy
    obtain ⟨i, g1, g2⟩ := dx.get (j := 0) (by simp)
    have g1' : iAdrSl 1 w (.int .i64 (0)) = some (pt i 0) := g1
    rw [decide_eq_true (show ((([y] : List Nat).length : Nat) : Int) = 1 from rfl), q89z4]
    simp only [GdP_tt, fadr_pt, Nat.zero_add, OP_some, l3, g1', g2, List.getElem_cons_zero, bin_eql]
    rw [decide_eq_false (show ¬ ((y : Int) = 1) by omega), q89z6]
    simp only [iPick_t, OP_some]
    exact hk _ x1
  · rw [decide_eq_false (show ¬ ((xs.length : Int) = 1) by omega), q89z4]
    simp only [GdP_ft]
    rw [q89z6]
    simp only [iPick_f, OP_some]
    exact hk _ x1

def ratS (a b : Int) : List UInt8 := if b = 1 then numS a else numS a ++ 47 :: decS b.natAbs

theorem numS_len {a : Int} (la : a.natAbs < bigW) : (numS a).length ≤ 1001 := by
  have := (decS_facts la).2.2.1
  unfold numS
  split <;> simp <;> omega

theorem C50q {va : Value} {a b : Int} {h : Heap} {K : Value → Heap → Prop} (ha : RatV h va a b) (b0 : 0 < b) (la : a.natAbs < bigW) (lb : b.natAbs < bigW) (hk : ∀ h', EX h h' → K (.tuple #[S (ratS a b), I 0]) h') : CallP Tryz.prog 50 [va] h K := by
  obtain ⟨u, w, rfl, hu, hw⟩ := ha
  have hsb : decide (b < 0) = false := decide_eq_false (by omega)
  rw [hsb]
  refine f50 ?_
  have e1 : iBox 86 h (.agg #[B (decide (a < 0)), u, B false, w]) = some (pt h.length 0, h ++ [.arr 86 [B (decide (a < 0)), u, B false, w]]) := rfl
  simp only [T50, e1, OH_some]
  have x1 : EX h (h ++ [IObj.arr 86 [B (decide (a < 0)), u, B false, w]]) := EX.append _ _
  have l1 : iLoad false 1 (h ++ [IObj.arr 86 [B (decide (a < 0)), u, B false, w]]) (pt h.length 1) = some u := load_last rfl
  have l0 : iLoad false 1 (h ++ [IObj.arr 86 [B (decide (a < 0)), u, B false, w]]) (pt h.length 0) = some (B (decide (a < 0))) := load_last rfl
  have g0 : (h ++ [IObj.arr 86 [B (decide (a < 0)), u, B false, w]])[h.length]? = some (.arr 86 [B (decide (a < 0)), u, B false, w]) := get_last
  generalize h ++ [IObj.arr 86 [B (decide (a < 0)), u, B false, w]] = h1 at x1 l1 l0 g0 ⊢
  obtain ⟨d1, d2, d3, d4, d5⟩ := decS_facts la
  obtain ⟨c1, c2, c3, c4, c5⟩ := decS_facts lb
  simp only [fadr_pt, Nat.zero_add, Nat.add_zero, OP_some, l1]
  refine C88 (hu.mono x1) la ?_
  intro h2 x2
  simp only [lenS_S, OP_some, bin_gtr, decide_eq_false (show ¬ ((decS a.natAbs).length : Int) > 4000 by omega), IfP_false, EX.load x2 l0]
  have last : p50z8 Tryz.prog K (pt h.length 0) (S (numS a)) h2 := by
    rw [q50z8, load4 (x2.get g0)]
    simp only [OP_some]
    refine C89q ((hw.mono x1).mono x2) lb ?_
    intro h3 x3
    simp only [IfP_dec]
    refine ⟨fun h9 => ?_, fun h9 => ?_⟩
    · have e : ratS a b = numS a := by unfold ratS; rw [if_pos (by omega)]
      rw [← e]
      exact hk _ ((x1.trans x2).trans x3)
    · have l3 : iLoad false 1 h3 (pt h.length 3) = some w := by simp [iLoad, objCells, (x2.trans x3).get g0, iPart]
      simp only [fadr_pt, Nat.zero_add, Nat.add_zero, OP_some, l3]
      refine C88 (((hw.mono x1).mono x2).mono x3) lb ?_
      intro h4 x4
      have nl := numS_len la
      have a1 : iBin .add (S (numS a)) (.string ⟨#[47]⟩) = some (S (numS a ++ [47])) := bin_addS (a := numS a) (b := [47]) (by simp [maxLen]; omega)
      have a2 : iBin .add (S (numS a ++ [47])) (S (decS b.natAbs)) = some (S (numS a ++ [47] ++ decS b.natAbs)) := bin_addS (a := numS a ++ [47]) (b := decS b.natAbs) (by simp [maxLen]; omega)
      simp only [lenS_S, OP_some, bin_gtr, decide_eq_false (show ¬ ((decS b.natAbs).length : Int) > 4000 by omega), IfP_false, a1, a2]
      have e : ratS a b = numS a ++ [47] ++ decS b.natAbs := by unfold ratS; rw [if_neg (by omega)]; simp
      rw [← e]
      exact hk _ ((x1.trans x2).trans (x3.trans x4))
  by_cases hneg : a < 0
  · rw [decide_eq_true hneg]
    have : numS a = 45 :: decS a.natAbs := by unfold numS; rw [if_pos hneg]
    have ad : iBin .add (.string ⟨#[45]⟩) (S (decS a.natAbs)) = some (S (numS a)) := by
      rw [this]
      exact bin_addS (a := [45]) (b := decS a.natAbs) (by simp [maxLen]; omega)
    simp only [IfP_true, ad, OP_some]
    exact last
  · rw [decide_eq_false hneg]
    have : numS a = decS a.natAbs := by unfold numS; rw [if_neg hneg]
    rw [this] at last
    simp only [IfP_false]
    exact last

end Go.Proofs.YthplaillblmgfaaGreatDoor


namespace Go.Proofs.YthplaillblmgfaaGreatDoor
open Go.Sim
end Go.Proofs.YthplaillblmgfaaGreatDoor


namespace Go.Proofs.YthplaillblmgfaaGreatDoor
open Go.Sim
variable (P : Program) (K : VK)
/-! F6: pommel/pommellaw08.MarkKraft -/
noncomputable def oc6 := compFn Tryz.prog 6 [[], [], [], [], [3, 5, 6, 30], [3, 5, 6, 30, 33], [3, 5, 6, 35], [3, 5, 6, 35, 38], [3, 5, 6, 35, 38, 40], [3, 5, 6, 35, 41], [3, 5, 6, 43], [3, 5, 6, 43, 45], [], [], [], [], [3, 8, 54], [3, 8, 54, 56], [], [], [], [], [], [9, 68], [68, 71], [], [], [3, 9, 75], [3, 9, 75, 78], [3, 9, 80], [9, 80, 86], [], [], [], [], [], [14, 100], [100, 102], []]
@[irreducible] noncomputable def c6 : ICode := icOf oc6
@[irreducible] noncomputable def c6z8 : ICode := c6.r.r.r.r.l.l.r.l
@[irreducible] noncomputable def c6z6 : ICode := c6.r.r.r.r.l.r
@[irreducible] noncomputable def c6z5 : ICode := c6.r.r.r.r.r
@[irreducible] noncomputable def c6z10 : ICode := c6z8.r.l
@[irreducible] noncomputable def c6z28 : ICode := c6z5.r.l.l.r.l
@[irreducible] noncomputable def c6z26 : ICode := c6z5.r.l.r
@[irreducible] noncomputable def c6z25 : ICode := c6z5.r.r
@[irreducible] noncomputable def c6z12 : ICode := c6z10.r.l
@[irreducible] noncomputable def c6z30 : ICode := c6z28.r.l
@[irreducible] noncomputable def c6z37 : ICode := c6z25.r.l.r.l.l.r.l
@[irreducible] noncomputable def c6z35 : ICode := c6z25.r.l.r.l.r
@[irreducible] noncomputable def c6z33 : ICode := c6z25.r.r
@[irreducible] noncomputable def c6z14 : ICode := c6z12.r.l
@[irreducible] noncomputable def c6z39 : ICode := c6z37.r.l
@[irreducible] noncomputable def c6z43 : ICode := c6z33.l.l.r.l
@[irreducible] noncomputable def c6z41 : ICode := c6z33.l.r
@[irreducible] noncomputable def c6z40 : ICode := c6z33.r
@[irreducible] noncomputable def c6z16 : ICode := c6z14.r.l
@[irreducible] noncomputable def c6z45 : ICode := c6z43.r.l
@[irreducible] noncomputable def c6z55 : ICode := c6z40.r.r.l.r.l
@[irreducible] noncomputable def c6z53 : ICode := c6z40.r.r.r
@[irreducible] noncomputable def c6z18 : ICode := c6z16.r.l
@[irreducible] noncomputable def c6z47 : ICode := c6z45.r.l
@[irreducible] noncomputable def c6z57 : ICode := c6z55.r.l
@[irreducible] noncomputable def c6z20 : ICode := c6z18.r.l
@[irreducible] noncomputable def c6z49 : ICode := c6z47.r.l
@[irreducible] noncomputable def c6z22 : ICode := c6z20.r.l
theorem k6 : oc6 = some (104, c6, [.tmp 2]) := by kernel_rfl
def K6z0 (_P : Program) (K : VK) : Kont := bodyP [.tmp 2] K
def K6z5 : Kont := thenK (iwpP P c6z5 (K6z0 P K)) (K6z0 P K)
def K6z6 : Kont := thenK (iwpP P c6z6 (K6z5 P K)) (K6z5 P K)
def K6z25 : Kont := thenK (iwpP P c6z25 (K6z0 P K)) (K6z0 P K)
def K6z26 : Kont := thenK (iwpP P c6z26 (K6z25 P K)) (K6z25 P K)
def K6z33 : Kont := thenK (iwpP P c6z33 (K6z0 P K)) (K6z0 P K)
def K6z35 : Kont := thenK (iwpP P c6z35 (K6z33 P K)) (K6z33 P K)
def K6z40 : Kont := thenK (iwpP P c6z40 (K6z0 P K)) (K6z0 P K)
def K6z41 : Kont := thenK (iwpP P c6z41 (K6z40 P K)) (K6z40 P K)
def K6z53 : Kont := thenK (iwpP P c6z53 (K6z0 P K)) (K6z0 P K)
def p6z8 (l3 e5 k6 x30 : Value) (h : Heap) : Prop := CutP (iwpP P c6z8 (K6z6 P K)) [3, 5, 6, 30] [l3, e5, k6, x30] h
def p6z10 (l3 e5 k6 x30 x33 : Value) (h : Heap) : Prop := CutP (iwpP P c6z10 (K6z6 P K)) [3, 5, 6, 30, 33] [l3, e5, k6, x30, x33] h
def p6z12 (l3 e5 k6 x35 : Value) (h : Heap) : Prop := CutP (iwpP P c6z12 (K6z6 P K)) [3, 5, 6, 35] [l3, e5, k6, x35] h
def p6z14 (l3 e5 k6 x35 x38 : Value) (h : Heap) : Prop := CutP (iwpP P c6z14 (K6z6 P K)) [3, 5, 6, 35, 38] [l3, e5, k6, x35, x38] h
def p6z16 (l3 e5 k6 x35 x38 x40 : Value) (h : Heap) : Prop := CutP (iwpP P c6z16 (K6z6 P K)) [3, 5, 6, 35, 38, 40] [l3, e5, k6, x35, x38, x40] h
def p6z18 (l3 e5 k6 x35 x41 : Value) (h : Heap) : Prop := CutP (iwpP P c6z18 (K6z6 P K)) [3, 5, 6, 35, 41] [l3, e5, k6, x35, x41] h
def p6z20 (l3 e5 k6 x43 : Value) (h : Heap) : Prop := CutP (iwpP P c6z20 (K6z6 P K)) [3, 5, 6, 43] [l3, e5, k6, x43] h
def p6z22 (l3 e5 k6 x43 x45 : Value) (h : Heap) : Prop := CutP (iwpP P c6z22 (K6z6 P K)) [3, 5, 6, 43, 45] [l3, e5, k6, x43, x45] h
def p6z28 (l3 small8 x54 : Value) (h : Heap) : Prop := CutP (iwpP P c6z28 (K6z26 P K)) [3, 8, 54] [l3, small8, x54] h
def p6z30 (l3 small8 x54 x56 : Value) (h : Heap) : Prop := CutP (iwpP P c6z30 (K6z26 P K)) [3, 8, 54, 56] [l3, small8, x54, x56] h
def p6z37 (p9 x68 : Value) (h : Heap) : Prop := CutP (iwpP P c6z37 (K6z35 P K)) [9, 68] [p9, x68] h
def p6z39 (x68 x71 : Value) (h : Heap) : Prop := CutP (iwpP P c6z39 (K6z35 P K)) [68, 71] [x68, x71] h
def p6z43 (l3 p9 x75 : Value) (h : Heap) : Prop := CutP (iwpP P c6z43 (K6z41 P K)) [3, 9, 75] [l3, p9, x75] h
def p6z45 (l3 p9 x75 x78 : Value) (h : Heap) : Prop := CutP (iwpP P c6z45 (K6z41 P K)) [3, 9, 75, 78] [l3, p9, x75, x78] h
def p6z47 (l3 p9 x80 : Value) (h : Heap) : Prop := CutP (iwpP P c6z47 (K6z41 P K)) [3, 9, 80] [l3, p9, x80] h
def p6z49 (p9 x80 x86 : Value) (h : Heap) : Prop := CutP (iwpP P c6z49 (K6z41 P K)) [9, 80, 86] [p9, x80, x86] h
def p6z55 (i14 x100 : Value) (h : Heap) : Prop := CutP (iwpP P c6z55 (K6z53 P K)) [14, 100] [i14, x100] h
def p6z57 (x100 x102 : Value) (h : Heap) : Prop := CutP (iwpP P c6z57 (K6z53 P K)) [100, 102] [x100, x102] h
theorem q6z22 (l3 e5 k6 x43 x45 : Value) (h : Heap) : p6z22 P K l3 e5 k6 x43 x45 h =
 (OP (iPick x43 (.bool true) x45) fun x46 =>
 IfP x46
 (K (.bool false) h)
 (CallP P 13 [k6] h fun x48 h_1 =>
 CallP P 14 [(.int .i64 (1))] h_1 fun x49 h_2 =>
 CallP P 12 [x48, x49] h_2 fun x50 h_3 =>
 OP (iBin .leq x50 (.int .i64 (0))) fun x51 =>
 OP (iBin .eql e5 (.int .i64 (5))) fun x53 =>
 p6z28 P K l3 x51 x53 h_3)) := (CutP_def _ _ _ _).trans (by kernel_rfl)
theorem q6z20 (l3 e5 k6 x43 : Value) (h : Heap) : p6z20 P K l3 e5 k6 x43 h =
 (GdP x43 false
 (CallP P 15 [] h fun x44 h_1 =>
 OP (iUn .not x44) fun x45 =>
 p6z22 P K l3 e5 k6 x43 x45 h_1)
 (p6z22 P K l3 e5 k6 x43 undef h)) := (CutP_def _ _ _ _).trans (by kernel_rfl)
theorem q6z18 (l3 e5 k6 x35 x41 : Value) (h : Heap) : p6z18 P K l3 e5 k6 x35 x41 h =
 (OP (iPick x35 (.bool true) x41) fun x42 =>
 p6z20 P K l3 e5 k6 x42 h) := (CutP_def _ _ _ _).trans (by kernel_rfl)
theorem q6z16 (l3 e5 k6 x35 x38 x40 : Value) (h : Heap) : p6z16 P K l3 e5 k6 x35 x38 x40 h =
 (GdP x35 false
 (OP (iPick x38 x40 (.bool false)) fun x41 =>
 p6z18 P K l3 e5 k6 x35 x41 h)
 (p6z18 P K l3 e5 k6 x35 undef h)) := (CutP_def _ _ _ _).trans (by kernel_rfl)
theorem q6z14 (l3 e5 k6 x35 x38 : Value) (h : Heap) : p6z14 P K l3 e5 k6 x35 x38 h =
 (GdP x38 true
 (OP (iBin .neq e5 (.int .i64 (5))) fun x40 =>
 p6z16 P K l3 e5 k6 x35 x38 x40 h)
 (p6z16 P K l3 e5 k6 x35 x38 undef h)) := (CutP_def _ _ _ _).trans (by kernel_rfl)
theorem q6z12 (l3 e5 k6 x35 : Value) (h : Heap) : p6z12 P K l3 e5 k6 x35 h =
 (GdP x35 false
 (OP (iBin .neq e5 (.int .i64 (0))) fun x37 =>
 p6z14 P K l3 e5 k6 x35 x37 h)
 (p6z14 P K l3 e5 k6 x35 undef h)) := (CutP_def _ _ _ _).trans (by kernel_rfl)
theorem q6z10 (l3 e5 k6 x30 x33 : Value) (h : Heap) : p6z10 P K l3 e5 k6 x30 x33 h =
 (OP (iPick x30 (.bool true) x33) fun x34 =>
 p6z12 P K l3 e5 k6 x34 h) := (CutP_def _ _ _ _).trans (by kernel_rfl)
theorem q6z8 (l3 e5 k6 x30 : Value) (h : Heap) : p6z8 P K l3 e5 k6 x30 h =
 (GdP x30 false
 (CallP P 24 [k6] h fun x32 h_1 =>
 OP (iUn .not x32) fun x33 =>
 p6z10 P K l3 e5 k6 x30 x33 h_1)
 (p6z10 P K l3 e5 k6 x30 undef h)) := (CutP_def _ _ _ _).trans (by kernel_rfl)
theorem q6z30 (l3 small8 x54 x56 : Value) (h : Heap) : p6z30 P K l3 small8 x54 x56 h =
 (OP (iPick x54 x56 (.bool false)) fun x57 =>
 IfP x57
 (K (.bool false) h)
 (CallP P 28 [l3] h fun x60 h_1 =>
 CallP P 29 [x60] h_1 fun x61 h_2 =>
 OP (iExt 0 x61) fun x62 =>
 OP (iExt 1 x61) fun x63 =>
 OP (iUn .not small8) fun x65 =>
 IfP x65
 (OP (iBin .eql x63 (.int .i64 (5))) fun x67 =>
 p6z37 P K x62 x67 h_2)
 (OP (iBin .neq x63 (.int .i64 (0))) fun x74 =>
 p6z43 P K l3 x62 x74 h_2))) := (CutP_def _ _ _ _).trans (by kernel_rfl)
theorem q6z28 (l3 small8 x54 : Value) (h : Heap) : p6z28 P K l3 small8 x54 h =
 (GdP x54 true
 (OP (iUn .not small8) fun x56 =>
 p6z30 P K l3 small8 x54 x56 h)
 (p6z30 P K l3 small8 x54 undef h)) := (CutP_def _ _ _ _).trans (by kernel_rfl)
theorem q6z39 (x68 x71 : Value) (h : Heap) : p6z39 P K x68 x71 h =
 (OP (iPick x68 x71 (.bool false)) fun x72 =>
 K x72 h) := (CutP_def _ _ _ _).trans (by kernel_rfl)
theorem q6z37 (p9 x68 : Value) (h : Heap) : p6z37 P K p9 x68 h =
 (GdP x68 true
 (OP (iLenSl p9) fun x70 =>
 OP (iBin .eql x70 (.int .i64 (0))) fun x71 =>
 p6z39 P K x68 x71 h)
 (p6z39 P K x68 undef h)) := (CutP_def _ _ _ _).trans (by kernel_rfl)
theorem q6z49 (p9 x80 x86 : Value) (h : Heap) : p6z49 P K p9 x80 x86 h =
 (OP (iPick x80 (.bool true) x86) fun x87 =>
 IfP x87
 (K (.bool false) h)
 (CallP P 31 [p9] h fun x90 h_1 =>
 OP (iExt 0 x90) fun x91 =>
 OP (iExt 1 x90) fun x92 =>
 CallP P 9 [p9] h_1 fun x95 h_2 =>
 OP (iExt 0 x95) fun x96 =>
 OP (iExt 1 x95) fun x97 =>
 OP (iBin .eql x92 (.int .i64 (5))) fun x99 =>
 p6z55 P K x97 x99 h_2)) := (CutP_def _ _ _ _).trans (by kernel_rfl)
theorem q6z47 (l3 p9 x80 : Value) (h : Heap) : p6z47 P K l3 p9 x80 h =
 (GdP x80 false
 (CallP P 28 [p9] h fun x82 h_1 =>
 CallP P 28 [l3] h_1 fun x84 h_2 =>
 CallP P 23 [x82, x84] h_2 fun x85 h_3 =>
 OP (iUn .not x85) fun x86 =>
 p6z49 P K p9 x80 x86 h_3)
 (p6z49 P K p9 x80 undef h)) := (CutP_def _ _ _ _).trans (by kernel_rfl)
theorem q6z45 (l3 p9 x75 x78 : Value) (h : Heap) : p6z45 P K l3 p9 x75 x78 h =
 (OP (iPick x75 (.bool true) x78) fun x79 =>
 p6z47 P K l3 p9 x79 h) := (CutP_def _ _ _ _).trans (by kernel_rfl)
theorem q6z43 (l3 p9 x75 : Value) (h : Heap) : p6z43 P K l3 p9 x75 h =
 (GdP x75 false
 (CallP P 30 [p9] h fun x77 h_1 =>
 OP (iBin .neq x77 (.int .i64 (0))) fun x78 =>
 p6z45 P K l3 p9 x75 x78 h_1)
 (p6z45 P K l3 p9 x75 undef h)) := (CutP_def _ _ _ _).trans (by kernel_rfl)
theorem q6z57 (x100 x102 : Value) (h : Heap) : p6z57 P K x100 x102 h =
 (OP (iPick x100 x102 (.bool false)) fun x103 =>
 K x103 h) := (CutP_def _ _ _ _).trans (by kernel_rfl)
theorem q6z55 (i14 x100 : Value) (h : Heap) : p6z55 P K i14 x100 h =
 (GdP x100 true
 (OP (iBin .eql i14 (.int .i64 (5))) fun x102 =>
 p6z57 P K x100 x102 h)
 (p6z57 P K x100 undef h)) := (CutP_def _ _ _ _).trans (by kernel_rfl)
def T6 (x0 : Value) (h : Heap) : Prop :=
 CallP P 8 [x0] h fun x16 h_1 =>
 CallP P 9 [x16] h_1 fun x19 h_2 =>
 OP (iExt 0 x19) fun x20 =>
 OP (iExt 1 x19) fun x21 =>
 CallP P 28 [x16] h_2 fun x24 h_3 =>
 CallP P 27 [x24] h_3 fun x25 h_4 =>
 OP (iExt 0 x25) fun x26 =>
 OP (iExt 1 x25) fun x27 =>
 OP (iBin .neq x27 (.int .i64 (0))) fun x29 =>
 p6z8 P K x16 x21 x26 x29 h_4
theorem e6 (x0 : Value) (h : Heap) : iwpP P c6 (bodyP [.tmp 2] K) (frame0 [x0]) h = T6 P K x0 h := by kernel_rfl
theorem f6 {K : VK} {x0 : Value} {h : Heap} (H : T6 Tryz.prog K x0 h) : CallP Tryz.prog 6 [x0] h K :=
 callP_intro k6 (Nat.le_of_ble_eq_true rfl) ((e6 Tryz.prog K x0 h).mpr H)
/-! F24: pommel/pommelref01.Valid -/
noncomputable def oc24 := compFn Tryz.prog 24 [[], [], []]
@[irreducible] noncomputable def c24 : ICode := icOf oc24
theorem k24 : oc24 = some (11, c24, [.tmp 2]) := by kernel_rfl
def T24 (x0 : Value) (h : Heap) : Prop :=
 CallP P 51 [x0] h fun x7 h_1 =>
 OP (iExt 0 x7) fun x8 =>
 OP (iExt 1 x7) fun x9 =>
 OH (iAlloc 38 [(.bool false), (.slice none 0 0), (.bool false), (.slice none 0 0)] h_1) fun x3 h_2 =>
 OH (oStore 4 h_2 x3 x8) fun _ h_3 =>
 K x9 h_3
theorem e24 (x0 : Value) (h : Heap) : iwpP P c24 (bodyP [.tmp 2] K) (frame0 [x0]) h = T24 P K x0 h := by kernel_rfl
theorem f24 {K : VK} {x0 : Value} {h : Heap} (H : T24 Tryz.prog K x0 h) : CallP Tryz.prog 24 [x0] h K :=
 callP_intro k24 (Nat.le_of_ble_eq_true rfl) ((e24 Tryz.prog K x0 h).mpr H)
end Go.Proofs.YthplaillblmgfaaGreatDoor

namespace Go.Proofs.YthplaillblmgfaaGreatDoor
open Go.Sim

theorem C12 {va vb : Value} {a b c d : Int} {h : Heap} {K : Value → Heap → Prop} (ha : QZ h va a b) (hb : QZ h vb c d) (la : a.natAbs < bigW) (lb : b.natAbs < bigW) (lc : c.natAbs < bigW) (ld : d.natAbs < bigW) (lad : (a * d).natAbs < bigW) (lcb : (c * b).natAbs < bigW)
    (hk : ∀ h', EX h h' → K (I (isgn (a * d - c * b))) h') : CallP Tryz.prog 12 [va, vb] h K := by
  obtain ⟨u, w, rfl, hu, hw⟩ := ha
  obtain ⟨u', w', rfl, hu', hw'⟩ := hb
  refine f12 ?_
  unfold T12
  have e1 : ∀ (g : Heap) (s s' : Bool) (b d : Value), iBox 38 g (.agg #[B s, b, B s', d]) = some (pt g.length 0, g ++ [.arr 38 [B s, b, B s', d]]) := fun _ _ _ _ _ => rfl
  simp only [e1, OH_some]
  have x1 : EX h (h ++ [.arr 38 [B (decide (a < 0)), u, B (decide (b < 0)), w]]) := EX.append _ _
  have k1 : (h ++ [IObj.arr 38 [B (decide (a < 0)), u, B (decide (b < 0)), w]])[h.length]? = some (.arr 38 [B (decide (a < 0)), u, B (decide (b < 0)), w]) := get_last
  generalize h ++ [IObj.arr 38 [B (decide (a < 0)), u, B (decide (b < 0)), w]] = g at x1 k1 ⊢
  have x2 : EX g (g ++ [.arr 38 [B (decide (c < 0)), u', B (decide (d < 0)), w']]) := EX.append _ _
  have k2 : (g ++ [IObj.arr 38 [B (decide (c < 0)), u', B (decide (d < 0)), w']])[g.length]? = some (.arr 38 [B (decide (c < 0)), u', B (decide (d < 0)), w']) := get_last
  generalize g ++ [IObj.arr 38 [B (decide (c < 0)), u', B (decide (d < 0)), w']] = g2 at x2 k2 ⊢
  have k1 := x2.get k1
  have xx := x1.trans x2
  have za : ZV g2 (.agg #[B (decide (a < 0)), u]) a := ⟨u, rfl, hu.mono xx⟩
  have zb : ZV g2 (.agg #[B (decide (b < 0)), w]) b := ⟨w, rfl, hw.mono xx⟩
  have zc : ZV g2 (.agg #[B (decide (c < 0)), u']) c := ⟨u', rfl, hu'.mono xx⟩
  have zd : ZV g2 (.agg #[B (decide (d < 0)), w']) d := ⟨w', rfl, hw'.mono xx⟩
  have a0 := load4a k1
  have a2 := load4b k1
  have b0 := load4a k2
  have b2 := load4b k2
  simp only [fadr_pt, Nat.add_zero, Nat.zero_add, OP_some, a0, b2, true_and]
  refine C53 za zd la ld ?_
  intro r3 g3 x3 z3
  simp only [EX.load x3 b0, EX.load x3 a2, OP_some, b0, a2, true_and]
  refine C53 (zc.mono x3) (zb.mono x3) lc lb ?_
  intro r4 g4 x4 z4'
  refine C52 (z3.mono x4) z4' lad lcb ?_
  intro g5 x5
  exact hk g5 (xx.trans (x3.trans (x4.trans x5)))

theorem isgn_neg (x : Int) : decide (isgn x < 0) = decide (x < 0) := by
  unfold isgn
  refine decide_eq_decide.2 ?_
  split
  · omega
  · split <;> omega

section
variable {K : Value → Heap → Prop} (hk : ∀ h', K (B true) h')
include hk

end

end Go.Proofs.YthplaillblmgfaaGreatDoor


namespace Go.Proofs.YthplaillblmgfaaGreatDoor
open Go.Sim

theorem zcells {h : Heap} {v : Value} {z : Int} (p : ZV h v z) : ∃ s u, v = .agg #[B s, u] := by
  obtain ⟨w, rfl, _⟩ := p
  exact ⟨_, _, rfl⟩

theorem C51f {a d : Nat} {h : Heap} {K : Value → Heap → Prop} (ha : a < 10000 ^ 100) (hd : d < 10000 ^ 100) (h2 : 2 ≤ d) (hg : Nat.gcd a d = 1) (hk : ∀ r h', EX h h' → QZ h' r a d → K (.tuple #[r, B true]) h') : CallP Tryz.prog 51 [S (decS a ++ 47 :: decS d)] h K := by
  have big : ∀ n : Nat, n < 10000 ^ 100 → n < bigW ∧ n < 10000 ^ 199 := fun n hn => ⟨by
    have : (10000 : Nat) ^ 100 ≤ 4294967296 ^ 100 := Nat.pow_le_pow_left (by decide) _
    unfold bigW; omega, Nat.lt_of_lt_of_le hn (Nat.pow_le_pow_right (by decide) (by decide))⟩
  obtain ⟨d1, d2, d3, d4, d5⟩ := decS_facts (big a ha).1
  obtain ⟨f1, f2, f3, f4, f5⟩ := decS_facts (big d hd).1
  generalize decS a = A at d1 d2 d3 d4 d5 ⊢
  generalize decS d = D at f1 f2 f3 f4 f5 ⊢
  have sl : (A ++ 47 :: D).length = A.length + 1 + D.length := by simp; omega
  refine f51 ?_
  have e1 : iAlloc 38 [(.bool false), (.slice none 0 0), (.bool false), (.slice none 0 0)] h = some (pt h.length 0, h ++ [.arr 38 z4]) := rfl
  have x0 : EX h (h ++ [.arr 38 z4]) := EX.append _ _
  have k0 : (h ++ [IObj.arr 38 z4])[h.length]? = some (.arr 38 z4) := get_last
  unfold T51
  simp only [e1, OH_some, lenS_S, OP_some, bin_gtr, sl]
  rw [decide_eq_false (show ¬ (8002 : Int) < ((A.length + 1 + D.length : Nat) : Int) by omega), decide_eq_true (show (0 : Int) < ((A.length + 1 + D.length : Nat) : Int) by omega)]
  simp only [IfP_false]
  generalize h ++ [IObj.arr 38 z4] = g0 at x0 k0 ⊢
  have ix0 := idxS_S (a := A ++ 47 :: D) (i := 0) (by omega) .i64
  have ch0 : (A ++ 47 :: D)[0]'(by omega) = A[0] := List.getElem_append_left d2
  rw [ch0] at ix0
  have hd0 := d1 _ (List.getElem_mem d2)
  have e5 : iBin .eql (cv A[0]) (.int .u8 45) = some (B false) := by
    show some (B (decide ((A[0].toNat : Int) = 45))) = _
    rw [decide_eq_false (by omega)]
  simp only [Int.natCast_zero] at ix0
  rw [q51z9]
  simp only [GdP_tt, ix0, OP_some, e5, q51z11, iPick_t, IfP_false]
  rw [q51z12]
  have e2 : IntKind.wrap .i64 (((A.length + 1 + D.length : Nat) : Int) - 1) = ((A.length + 1 + D.length : Nat) : Int) - 1 := wrap64 (by omega) (by omega)
  simp only [lenS_S, OP_some, sl, bin_sub, e2]
  refine loopL (σ := Nat) (fun p => [I (if p ≤ A.length then (A.length : Nat) else (A.length + 1 + D.length : Nat) : Nat), I ((p : Int) - 1)]) (fun _ => g0) (fun p => p ≤ A.length + 1 + D.length) (fun p => p) (A.length + 1 + D.length) (by rw [if_neg (by omega)]) rfl (Nat.le_refl _) ?_
  intro p hp L hL
  rw [q51z17]
  simp only [bin_geq, OP_some, IfP_dec]
  refine ⟨fun hge => ?_, fun hlt => ?_⟩
  · obtain ⟨p, rfl⟩ : ∃ m, p = m + 1 := ⟨p - 1, by omega⟩
    have ei : ((p + 1 : Nat) : Int) - 1 = (p : Int) := by omega
    have hpl : p < (A ++ 47 :: D).length := by omega
    have ix := idxS_S (a := A ++ 47 :: D) (i := p) hpl .i64
    have w : IntKind.wrap .i64 ((p : Int) - 1) = (p : Int) - 1 := wrap64 (by omega) (by omega)
    rw [ei]
    have nx := hL p (by omega) (by omega)
    by_cases hpA : p = A.length
    · have ch : (A ++ 47 :: D)[p] = 47 := by subst hpA; simp
      rw [ch] at ix
      have e7 : iBin .eql (cv 47) (.int .u8 47) = some (B true) := rfl
      rw [if_pos (by omega)] at nx
      simp only [ix, OP_some, e7, IfP_true, q51z23, bin_sub, w, true_and]
      rw [← hpA] at nx
      exact nx
    · have hch : (A ++ 47 :: D)[p] ∈ A ∨ (A ++ 47 :: D)[p] ∈ D := by
        by_cases hlt : p < A.length
        · left; rw [List.getElem_append_left hlt]; exact List.getElem_mem _
        · right
          rw [List.getElem_append_right (by omega)]
          obtain ⟨m, hm⟩ : ∃ m, p - A.length = m + 1 := ⟨p - A.length - 1, by omega⟩
          simp only [hm, List.getElem_cons_succ]
          exact List.getElem_mem _
      have hcd : 48 ≤ ((A ++ 47 :: D)[p]).toNat ∧ ((A ++ 47 :: D)[p]).toNat ≤ 57 := by
        rcases hch with h | h
        · have := d1 _ h; omega
        · have := f1 _ h; omega
      have e7 : iBin .eql (cv (A ++ 47 :: D)[p]) (.int .u8 47) = some (B false) := by
        show some (B (decide ((((A ++ 47 :: D)[p]).toNat : Int) = 47))) = _
        rw [decide_eq_false (by omega)]
      have e8 : (if p + 1 ≤ A.length then (A.length : Nat) else A.length + 1 + D.length) = (if p ≤ A.length then A.length else A.length + 1 + D.length) := by
        split <;> split <;> omega
      simp only [ix, OP_some, e7, IfP_false, q51z23, bin_sub, w, true_and, e8]
      exact nx
  · have : p = 0 := by omega
    subst this
    rw [if_pos (Nat.zero_le _), q51z24]
    have s1 := slS_hi (a := A ++ 47 :: D) (n := A.length) (by omega) .i64
    rw [List.take_left] at s1
    simp only [s1, OP_some]
    refine C90 d1 d2 (by omega) d4 ?_
    intro r1 g1 x1 z1
    rw [d5] at z1
    obtain ⟨b1, u1, rfl⟩ := zcells z1
    have al : ∀ g : Heap, iAlloc 36 [(.bool false), (.slice none 0 0)] g = some (pt g.length 0, g ++ [.arr 36 [(.bool false), (.slice none 0 0)]]) := fun _ => rfl
    have fresh : ∀ (g : Heap) (b : Bool) (u : Value), (g ++ [IObj.arr 36 [(.bool false), (.slice none 0 0)]]).set g.length (.arr 36 [B b, u]) = g ++ [.arr 36 [B b, u]] := fun g b u => by simp
    simp only [ext_tuple, pair0, pair1, OP_some, al, OH_some]
    rw [store2 get_last]
    simp only [OH_some, fresh]
    have x2 : EX g1 (g1 ++ [.arr 36 [B b1, u1]]) := EX.append _ _
    have kn : (g1 ++ [IObj.arr 36 [B b1, u1]])[g1.length]? = some (.arr 36 [B b1, u1]) := get_last
    have zn := z1.mono x2
    have k2 := (x1.trans x2).get k0
    have y2 := x0.trans (x1.trans x2)
    generalize g1 ++ [IObj.arr 36 [B b1, u1]] = g2 at x2 kn zn k2 y2 ⊢
    refine C22 (z := 1) (by decide) ?_
    intro r3 g3 x3 z3
    obtain ⟨b3, u3, rfl⟩ := zcells z3
    rw [store2 get_last]
    simp only [OH_some, fresh]
    have x4 : EX g3 (g3 ++ [.arr 36 [B b3, u3]]) := EX.append _ _
    have kd : (g3 ++ [IObj.arr 36 [B b3, u3]])[g3.length]? = some (.arr 36 [B b3, u3]) := get_last
    have x34 := x3.trans x4
    have zn := zn.mono x34
    have kn := x34.get kn
    have k2 := x34.get k2
    have y2 := y2.trans x34
    have n3 : g1.length < g3.length := by
      have := x3.1
      have := (List.getElem?_eq_some_iff.1 kn).1
      have h5 : g1.length < g2.length := by
        have := x2.1
        exact Nat.lt_of_lt_of_le (by
          have := (List.getElem?_eq_some_iff.1 (show g2[g1.length]? = _ by assumption)).1
          exact this) (Nat.le_refl _)
      omega
    generalize g3 ++ [IObj.arr 36 [B b3, u3]] = g4 at x4 kd x34 zn kn k2 y2 ⊢
    have w1 : IntKind.wrap .i64 ((A.length : Int) + 1) = ((A.length + 1 : Nat) : Int) := by rw [wrap64 (by omega) (by omega)]; omega
    have s2 := slS_lo (a := A ++ 47 :: D) (n := A.length + 1) (by omega) .i64
    have dr : (A ++ 47 :: D).drop (A.length + 1) = D := by simp
    rw [dr] at s2
    simp only [lenS_S, OP_some, sl, bin_lss, decide_eq_true (show (A.length : Int) < ((A.length + 1 + D.length : Nat) : Int) by omega), IfP_true, bin_add, w1, s2]
    refine C90 f1 f2 (by omega) f4 ?_
    intro r5 g5 x5 z5
    rw [f5] at z5
    obtain ⟨b5, u5, rfl⟩ := zcells z5
    simp only [ext_tuple, pair0, pair1, OP_some, OH_some]
    rw [store2 get_last]
    simp only [OH_some, fresh]
    have x6 : EX g5 (g5 ++ [.arr 36 [B b5, u5]]) := EX.append _ _
    have ke : (g5 ++ [IObj.arr 36 [B b5, u5]])[g5.length]? = some (.arr 36 [B b5, u5]) := get_last
    have x56 := x5.trans x6
    have ze := z5.mono x6
    have zn := zn.mono x56
    have kn := x56.get kn
    have kd := x56.get kd
    have k2 := x56.get k2
    have y2 := y2.trans x56
    generalize g5 ++ [IObj.arr 36 [B b5, u5]] = g6 at x6 ke x56 ze zn kn kd k2 y2 ⊢
    have nt : iUn .not (B true) = some (B false) := rfl
    simp only [nt, OP_some, GdP_ff, load2 ke, true_and]
    refine C22 (z := 2) (by decide) ?_
    intro r7 g7 x7 z7
    refine ⟨⟨load2 (x7.get ke), trivial⟩, ?_⟩
    have db : (d : Int).natAbs < bigW := by rw [Int.natAbs_natCast]; exact (big d hd).1
    refine C52 (ze.mono x7) z7 db (lt_bigW (by decide)) ?_
    intro g8 x8
    have sg : decide (isgn ((d : Int) - 2) < 0) = false := by rw [isgn_neg]; exact decide_eq_false (by omega)
    have x78 := x7.trans x8
    simp only [bin_lss, sg, OP_some, iPick_f, GdP_ff, load2 (x78.get kn), load2 (x78.get ke), true_and]
    refine C91 (zn.mono x78) (ze.mono x78) (by rw [Int.natAbs_natCast]; exact (big a ha).2) (by rw [Int.natAbs_natCast]; exact (big d hd).2) ?_
    intro u9 g9 x9 m9
    rw [Int.natAbs_natCast, Int.natAbs_natCast, hg] at m9
    have z9 : ZV g9 (.agg #[B false, u9]) 1 := ⟨u9, rfl, m9⟩
    refine C22 (z := 1) (by decide) ?_
    intro r10 g10 x10 z10
    have b1' : (1 : Int).natAbs < bigW := lt_bigW (by decide)
    refine C52 (z9.mono x10) z10 b1' b1' ?_
    intro g11 x11
    have e0 : iBin .neq (I (isgn (1 - 1))) (.int .i64 (0)) = some (B false) := rfl
    have xe := x78.trans (x9.trans (x10.trans x11))
    have ke := xe.get ke
    have kd := xe.get kd
    have kn := xe.get kn
    have k2 := xe.get k2
    have y2 := y2.trans xe
    have zn := zn.mono xe
    have ze := ze.mono xe
    simp only [e0, OP_some, iPick_f, IfP_false, load2 ke, true_and]
    rw [store2 kd]
    simp only [OH_some]
    have zn2 := zn.setB kd (.arr 36 [B b5, u5])
    have ze2 := ze.setB kd (.arr 36 [B b5, u5])
    have kd2 := set_get (o := .arr 36 [B b5, u5]) kd
    have kn2 : (g11.set g3.length (.arr 36 [B b5, u5]))[g1.length]? = some (.arr 36 [B b1, u1]) := by rw [List.getElem?_set_ne (by omega)]; exact kn
    have hne : g3.length ≠ h.length := by
      rintro e
      rw [e, k2] at kd
      cases kd
    have k22 : (g11.set g3.length (.arr 36 [B b5, u5]))[h.length]? = some (.arr 38 z4) := by rw [List.getElem?_set_ne hne]; exact k2
    have hg3 : h.length ≤ g3.length := by have := x0.1; have := x1.1; omega
    have y3 := y2.set hg3 (.arr 36 [B b5, u5])
    generalize g11.set g3.length (.arr 36 [B b5, u5]) = g12 at zn2 ze2 kd2 kn2 k22 y3 ⊢
    simp only [q51z33, nt, OP_some, q51z37, GdP_ff, q51z39, GdP_ft, q51z41, iPick_f, q51z43, IfP_false, q51z47, load2 kn2, load2 kd2]
    exact endQ (K := fun v h => K (.tuple #[v, B true]) h) zn2 ze2 y3 (Nat.le_refl _) k22 hk

end Go.Proofs.YthplaillblmgfaaGreatDoor


namespace Go.Proofs.YthplaillblmgfaaGreatDoor
open Go.Sim
variable (P : Program) (K : VK)
/-! F27: pommel/mark.Kraft -/
noncomputable def oc27 := compFn Tryz.prog 27 [[], [], [], [], [], [], [], [13, 14], [5, 15], [], [], [], [], [5], []]
@[irreducible] noncomputable def c27 : ICode := icOf oc27
@[irreducible] noncomputable def c27z10 : ICode := c27.r.r.r.l.r.l.l
@[irreducible] noncomputable def c27z7 : ICode := c27.r.r.r.r
@[irreducible] noncomputable def c27z16 : ICode := c27z7.l
theorem k27 : oc27 = some (31, c27, [.tmp 2, .tmp 3]) := by kernel_rfl
def K27z0 (_P : Program) (K : VK) : Kont := bodyP [.tmp 2, .tmp 3] K
def K27z7 : Kont := thenK (iwpP P c27z7 (K27z0 P K)) (K27z0 P K)
def K27z9 : Kont := inBlockK 0 (K27z7 P K)
def K27z10 (x13 x14 : Value) (L1 : LK) : Kont := thenK (fun f' h'' => (([13, 14] : List Nat).map f' : List Value) = [x13, x14] ∧ L1 (([5, 15] : List Nat).map f') h'') (K27z9 P K)
def p27z10 (x13 x14 : Value) (L1 : LK) (xs : List Value) (h : Heap) : Prop := CutP (iwpP P c27z10 (K27z10 P K x13 x14 L1)) ([13, 14] ++ [5, 15]) ([x13, x14] ++ xs) h
def p27z16 (sum5 : Value) (h : Heap) : Prop := CutP (iwpP P c27z16 (K27z0 P K)) [5] [sum5] h
theorem q27z10 (x13 x14 : Value) (L1 : LK) (sum5 x15 : Value) (h : Heap) : p27z10 P K x13 x14 L1 [sum5, x15] h =
 (OP (iBin .lss x15 x14) fun x16 =>
 IfP x16
 (OP (iAdrSl 1 x13 x15) fun x17 =>
 OP (iLoad false 1 h x17) fun x18 =>
 CallP P 66 [x18] h fun x21 h_1 =>
 OP (iBin .add sum5 x21) fun x22 =>
 OP (iBin .add x15 (.int .i64 (1))) fun x23 =>
 ([x13, x14] : List Value) = [x13, x14] ∧ L1 [x22, x23] h_1)
 (p27z16 P K sum5 h)) := (CutP_def _ _ _ _).trans (by kernel_rfl)
theorem q27z16 (sum5 : Value) (h : Heap) : p27z16 P K sum5 h =
 (CallP P 67 [sum5] h fun x25 h_1 =>
 CallP P 67 [(.int .i64 (1024))] h_1 fun x26 h_2 =>
 CallP P 68 [x25, x26] h_2 fun x27 h_3 =>
 CallP P 50 [x27] h_3 fun x28 h_4 =>
 OP (iExt 0 x28) fun x29 =>
 OP (iExt 1 x28) fun x30 =>
 K (.tuple #[x29, x30]) h_4) := (CutP_def _ _ _ _).trans (by kernel_rfl)
def T27 (lengths0 : Value) (h : Heap) : Prop :=
 CallP P 65 [lengths0] h fun x9 h_1 =>
 OP (iBin .neq x9 (.int .i64 (0))) fun x11 =>
 IfP x11
 (K (.tuple #[(.string ⟨#[]⟩), x9]) h_1)
 (OP (iLenSl lengths0) fun x14 =>
 LoopP [(.int .i64 (0)), (.int .i64 (0))] h_1 fun L1 xs hx =>
 p27z10 P K lengths0 x14 L1 xs hx)
theorem e27 (lengths0 : Value) (h : Heap) : iwpP P c27 (bodyP [.tmp 2, .tmp 3] K) (frame0 [lengths0]) h = T27 P K lengths0 h := by kernel_rfl
theorem f27 {K : VK} {lengths0 : Value} {h : Heap} (H : T27 Tryz.prog K lengths0 h) : CallP Tryz.prog 27 [lengths0] h K :=
 callP_intro k27 (Nat.le_of_ble_eq_true rfl) ((e27 Tryz.prog K lengths0 h).mpr H)
end Go.Proofs.YthplaillblmgfaaGreatDoor

namespace Go.Proofs.YthplaillblmgfaaGreatDoor
open Go.Sim

theorem sum_take {ls : List Nat} {i : Nat} (h : i < ls.length) : ((ls.take (i + 1)).map rmN).sum = ((ls.take i).map rmN).sum + rmN ls[i] := by
  rw [List.take_succ_eq_append_getElem h]
  simp only [List.map_append, List.sum_append, List.map_cons, List.map_nil, List.sum_cons, List.sum_nil, Nat.add_zero]

theorem sum_bd {ls : List Nat} (hok : lenOk ls) : (ls.map rmN).sum ≤ 512 * ls.length := by
  induction ls with
  | nil => simp
  | cons l ls ih =>
    have h1 := hok l (by simp)
    have := (rmN_range h1.1 h1.2).2
    have := ih fun x hx => hok x (by simp [hx])
    simp; omega

theorem sum_pos {ls : List Nat} (hok : lenOk ls) (h0 : 0 < ls.length) : 0 < (ls.map rmN).sum := by
  cases ls with
  | nil => simp at h0
  | cons l ls =>
    have h1 := hok l (by simp)
    have := (rmN_range h1.1 h1.2).1
    simp; omega

theorem lenOk_take {ls : List Nat} (hok : lenOk ls) (i : Nat) : lenOk (ls.take i) := fun x hx => hok x (List.mem_of_mem_take hx)

def krS (s : Nat) : List UInt8 := ratS ((s : Int) / (Nat.gcd s 1024 : Int)) ((1024 : Int) / (Nat.gcd s 1024 : Int))

theorem C27 {v : Value} {ls : List Nat} {h : Heap} {K : Value → Heap → Prop} (hv : NS h v .i64 (ls.map fun l : Nat => (l : Int))) (hl : ls.length ≤ 12) (h0 : 0 < ls.length) (hok : lenOk ls)
    (hk : ∀ h', EX h h' → K (.tuple #[S (krS (ls.map rmN).sum), I 0]) h') : CallP Tryz.prog 27 [v] h K := by
  refine f27 (C65 hv (by rw [List.length_map]; omega) ?_)
  simp only [lenE_ok hl h0 hok, bin_neq, OP_some, decide_true, Bool.not_true, IfP_false, hv.lenN]
  refine loopL (σ := Nat) (fun i => [I (((ls.take i).map rmN).sum : Nat), I i]) (fun _ => h) (fun i => i ≤ ls.length) (fun i => ls.length - i) 0 rfl rfl (Nat.zero_le _) ?_
  intro i hi L hL
  rw [q27z10]
  simp only [OP_some, bin_lss, IfP_dec]
  refine ⟨fun hlt => ?_, fun hge => ?_⟩
  · have hlt : i < ls.length := by omega
    obtain ⟨b, o, a1, a2⟩ := hv.getN hlt
    have h1 := hok _ (List.getElem_mem hlt)
    have bd := sum_bd (lenOk_take hok i)
    rw [List.length_take] at bd
    have rp := rmN_range h1.1 h1.2
    have w : IntKind.wrap .i64 ((((ls.take i).map rmN).sum : Nat) + (rmN ls[i] : Nat) : Int) = (((ls.take (i + 1)).map rmN).sum : Nat) := by rw [sum_take hlt, wrap64 (by omega) (by omega)]; omega
    simp only [a1, a2, OP_some]
    refine C66 h1.1 h1.2 ?_
    simp only [bin_add, w, OP_some, inc i (by omega), true_and]
    exact hL (i + 1) hlt (by omega)
  · have : i = ls.length := by omega
    subst this
    rw [List.take_length]
    have sp := sum_pos hok h0
    have sb := sum_bd hok
    unfold krS at hk
    generalize (ls.map rmN).sum = s at hk sp sb
    have sb : s ≤ 6144 := by omega
    rw [q27z16]
    refine C67 (by omega) (by omega) ?_
    intro r1 g1 x1 q1
    refine C67 (by omega) (by omega) ?_
    intro r2 g2 x2 q2
    have big : ∀ n : Nat, n < 4294967296 → n < bigW := fun n hn => lt_bigW (Nat.lt_of_lt_of_le hn (Nat.le_self_pow (by decide) _))
    have e1 : ((s : Int) * 1).natAbs = s := by omega
    have e2 : ((1 : Int) * 1024).natAbs = 1024 := rfl
    refine C68 (q1.mono x2) q2 (big _ (by omega)) (big _ (by decide)) (big _ (by decide)) (big _ (by decide)) (by rw [e1]; exact big _ (by omega)) (by decide) (by decide) ?_
    intro r3 g3 x3 q3
    rw [e1, e2, Int.mul_one, Int.one_mul] at q3
    have gp : 0 < Nat.gcd s 1024 := Nat.gcd_pos_of_pos_left _ sp
    have gle : Nat.gcd s 1024 ≤ 1024 := Nat.gcd_le_right _ (by decide)
    have d1 : (1024 : Int) / (Nat.gcd s 1024 : Int) = ((1024 / Nat.gcd s 1024 : Nat) : Int) := rfl
    have d2 : (s : Int) / (Nat.gcd s 1024 : Int) = ((s / Nat.gcd s 1024 : Nat) : Int) := rfl
    have p1 : 0 < 1024 / Nat.gcd s 1024 := Nat.div_pos gle gp
    refine C50q q3 (by rw [d1]; omega) (by rw [d2, Int.natAbs_natCast]; exact big _ (Nat.lt_of_le_of_lt (Nat.div_le_self _ _) (by omega))) (by rw [d1, Int.natAbs_natCast]; exact big _ (Nat.lt_of_le_of_lt (Nat.div_le_self _ _) (by decide))) ?_
    intro g4 x4
    simp only [ext_tuple, pair0, pair1, OP_some]
    exact hk g4 (x1.trans (x2.trans (x3.trans x4)))

end Go.Proofs.YthplaillblmgfaaGreatDoor


namespace Go.Proofs.YthplaillblmgfaaGreatDoor
open Go.Sim

def Reads51 (t : Tx) (a b : Int) : Prop := ∀ {h : Heap} {K : Value → Heap → Prop}, (∀ r h', EX h h' → QZ h' r a b → K (.tuple #[r, B true]) h') → CallP Tryz.prog 51 [S t] h K

theorem C13g {t : Tx} {a b : Int} (hp : Reads51 t a b) {h : Heap} {K : Value → Heap → Prop} (hk : ∀ r h', EX h h' → QZ h' r a b → K r h') : CallP Tryz.prog 13 [S t] h K := by
  refine f13 ?_
  have e1 : ∀ g : Heap, iAlloc 38 [(.bool false), (.slice none 0 0), (.bool false), (.slice none 0 0)] g = some (pt g.length 0, g ++ [.arr 38 z4]) := fun _ => rfl
  simp only [T13, e1, OH_some]
  refine hp ?_
  intro r h1 x1 q1
  obtain ⟨u, w, rfl, hu, hw⟩ := id q1
  have g1 := x1.get (get_last (h := h) (o := .arr 38 z4))
  simp only [ext_tuple, pair0, pair1, OP_some, OH_some]
  rw [store4 get_last]
  simp only [OH_some]
  rw [load4 (set_get get_last)]
  simp only [OP_some]
  have x2 : EX h1 ((h1 ++ [IObj.arr 38 z4]).set h1.length (.arr 38 [B (decide (a < 0)), u, B (decide (b < 0)), w])) := EX.set (EX.append _ _) (Nat.le_refl _) _
  have g2 := x2.get g1
  have xA := ((EX.append h [.arr 38 z4]).trans x1).trans x2
  refine fin4 g2 (hk _ _ (xA.set (Nat.le_refl _) _) ?_)
  exact (q1.mono x2).setB g2 _

theorem C24g {t : Tx} {a b : Int} (hp : Reads51 t a b) {h : Heap} {K : Value → Heap → Prop} (hk : ∀ h', EX h h' → K (B true) h') : CallP Tryz.prog 24 [S t] h K := by
  refine f24 (hp ?_)
  intro r h1 x1 q
  obtain ⟨u, w, rfl, hu, hw⟩ := q
  have e1 : ∀ g : Heap, iAlloc 38 [(.bool false), (.slice none 0 0), (.bool false), (.slice none 0 0)] g = some (pt g.length 0, g ++ [.arr 38 z4]) := fun _ => rfl
  have k1 : (h1 ++ [IObj.arr 38 z4])[h1.length]? = some (.arr 38 z4) := get_last
  simp only [ext_tuple, pair0, pair1, OP_some, e1, OH_some]
  rw [store4 k1]
  simp only [OH_some]
  exact hk _ (x1.trans ((EX.append _ _).set (Nat.le_refl _) _))

theorem kr_reads {s : Nat} (sp : 0 < s) (sb : s ≤ 6144) : ∃ p q : Nat, Reads51 (krS s) p q ∧ p ≤ 6144 ∧ q ≤ 1024 ∧ (p ≤ q ↔ s ≤ 1024) := by
  have gp : 0 < Nat.gcd s 1024 := Nat.gcd_pos_of_pos_left _ sp
  have gle : Nat.gcd s 1024 ≤ 1024 := Nat.gcd_le_right _ (by decide)
  have cp : Nat.gcd (s / Nat.gcd s 1024) (1024 / Nat.gcd s 1024) = 1 := Nat.coprime_div_gcd_div_gcd gp
  have m1 : s / Nat.gcd s 1024 * Nat.gcd s 1024 = s := Nat.div_mul_cancel (Nat.gcd_dvd_left _ _)
  have m2 : 1024 / Nat.gcd s 1024 * Nat.gcd s 1024 = 1024 := Nat.div_mul_cancel (Nat.gcd_dvd_right _ _)
  have l1 : s / Nat.gcd s 1024 ≤ s := Nat.div_le_self _ _
  have l2 : 1024 / Nat.gcd s 1024 ≤ 1024 := Nat.div_le_self _ _
  have p1 : 0 < 1024 / Nat.gcd s 1024 := Nat.div_pos gle gp
  have e : krS s = ratS ((s / Nat.gcd s 1024 : Nat) : Int) ((1024 / Nat.gcd s 1024 : Nat) : Int) := rfl
  have hle : s / Nat.gcd s 1024 ≤ 1024 / Nat.gcd s 1024 ↔ s ≤ 1024 := by
    constructor
    · intro h
      have := Nat.mul_le_mul_right (Nat.gcd s 1024) h
      omega
    · intro h
      exact Nat.div_le_div_right h
  generalize s / Nat.gcd s 1024 = p at *
  generalize 1024 / Nat.gcd s 1024 = q at *
  refine ⟨p, q, ?_, by omega, by omega, hle⟩
  have np : numS (p : Int) = decS p := by
    unfold numS
    rw [if_neg (by omega), Int.natAbs_natCast]
  have big : ∀ n : Nat, n < 10000 → n < 10000 ^ 100 := fun n hn => Nat.lt_of_lt_of_le hn (Nat.le_self_pow (by decide) _)
  intro h K hk
  rw [e]
  unfold ratS
  by_cases h1 : q = 1
  · subst h1
    rw [if_pos (show ((1 : Nat) : Int) = 1 from rfl)]
    refine C51 ?_ hk
    rw [Int.natAbs_natCast]
    exact lt_bigW (Nat.lt_of_lt_of_le (show p < 4294967296 by omega) (Nat.le_self_pow (by decide) _))
  · rw [if_neg (by omega), np, Int.natAbs_natCast]
    exact C51f (big p (by omega)) (big q (by omega)) (by omega) cp hk

theorem takes_sum (W : List Tx) (h : ∀ w ∈ W, w.length ≤ 10) : takes W = ((W.map List.length).map rmN).sum := by
  unfold takes
  rw [List.map_map]
  congr 1
  refine List.map_congr_left fun w hw => ?_
  simp only [Function.comp_apply]
  rw [rmN_pow (h w hw)]

theorem noRcB {W : List Tx} (nb : NoBeg W) {a t : Tx} (r : Rc W a t) : False := by
  induction r with
  | @init v w hv hw hne hp =>
    obtain ⟨i, hi, rfl⟩ := List.getElem_of_mem hv
    obtain ⟨j, hj, rfl⟩ := List.getElem_of_mem hw
    exact nb i j hi hj (by rintro rfl; exact hne rfl) hp
  | fwd _ _ _ _ ih => exact ih
  | bwd _ _ _ _ ih => exact ih

theorem lens_ok {W : List Tx} (ok : Ok W) : lenOk (W.map List.length) := fun l hl => by
  obtain ⟨w, hw, rfl⟩ := List.mem_map.1 hl
  exact ⟨List.length_pos_iff.2 (ok.ne w hw), ok.le w hw⟩

theorem C6 {vx : Value} {ns : List Int} {h : Heap} {K : Value → Heap → Prop} (hv : INS h 73 .u16 vx ns) (hnl : ns.length ≤ maxLen) (hns : ∀ x ∈ ns, 0 ≤ x ∧ x < 65536) (hk : ∀ h', K (B true) h') : CallP Tryz.prog 6 [vx] h K := by
  refine f6 (C8 hv hnl hns ?_)
  intro W u h1 ok h0 _ own
  have few := ok.few
  have hok := lens_ok ok
  have hl : (W.map List.length).length ≤ 12 := by rw [List.length_map]; exact few
  have hp : 0 < (W.map List.length).length := by rw [List.length_map]; exact List.length_pos_iff.2 h0
  have sp := sum_pos hok hp
  have sb : ((W.map List.length).map rmN).sum ≤ 6144 := by have := sum_bd hok; omega
  have ts := takes_sum W ok.le
  obtain ⟨p, q, rd, pb, qb, pq⟩ := kr_reads sp sb
  have l0 : iLenSl (.slice none 0 0) = some (I 0) := rfl
  -- after Clear
  have main : ∀ (e5 : Int) (g : Heap), EX h1 g → (e5 = 0 ∨ e5 = 5 ∧ ((W.map List.length).map rmN).sum ≤ 1024) →
      CallP Tryz.prog 28 [u] g fun x24 h_3 => CallP Tryz.prog 27 [x24] h_3 fun x25 h_4 => OP (iExt 0 x25) fun x26 => OP (iExt 1 x25) fun x27 => OP (iBin .neq x27 (.int .i64 (0))) fun x29 => p6z8 Tryz.prog K u (I e5) x26 x29 h_4 := by
    intro e5 g xg he
    refine C28 ((own_ss own).mono xg) (by omega) ?_
    intro u3 g3 x3 own3
    have n3 := own_ns own3 (by omega)
    refine C27 n3 hl hp hok ?_
    intro g4 x4
    generalize hS : ((W.map List.length).map rmN).sum = s at *
    simp only [ext_tuple, pair0, pair1, OP_some, bin_neq, decide_true, Bool.not_true, q6z8, GdP_ff]
    refine C24g rd ?_
    intro g5 x5
    have after : ∀ g6, EX g5 g6 → p6z18 Tryz.prog K u (I e5) (S (krS s)) (B false) (B false) g6 := by
      intro g6 x6
      simp only [q6z18, iPick_f, OP_some, q6z20, GdP_ff]
      refine C15 ?_
      simp only [un_not, OP_some, Bool.not_true, q6z22, iPick_f, IfP_false]
      refine C13g rd ?_
      intro r7 g7 x7 q7
      refine C14 (by decide) ?_
      intro r8 g8 x8 q8
      have bw : ∀ n : Nat, n < 4294967296 → n < bigW := fun n hn => lt_bigW (Nat.lt_of_lt_of_le hn (Nat.le_self_pow (by decide) _))
      have o1 : (1 : Int).natAbs < bigW := lt_bigW (by decide)
      refine C12 (q7.mono x8) q8 (by rw [Int.natAbs_natCast]; exact bw _ (by omega)) (by rw [Int.natAbs_natCast]; exact bw _ (by omega)) o1 o1 (by rw [Int.mul_one, Int.natAbs_natCast]; exact bw _ (by omega)) (by rw [Int.one_mul, Int.natAbs_natCast]; exact bw _ (by omega)) ?_
      intro g9 x9
      have sg : decide (isgn ((p : Int) * 1 - 1 * (q : Int)) ≤ 0) = decide (s ≤ 1024) := by
        refine decide_eq_decide.2 ?_
        rw [← pq]
        unfold isgn
        split
        · omega
        · split <;> omega
      have x19 := xg.trans (x3.trans (x4.trans (x5.trans (x6.trans (x7.trans (x8.trans x9))))))
      have hs9 := (own_ss own).mono x19
      have last : p6z30 Tryz.prog K u (B (decide (s ≤ 1024))) (B false) undef g9 ∧ p6z30 Tryz.prog K u (B (decide (s ≤ 1024))) (B true) (B false) g9 := by
        have core : CallP Tryz.prog 28 [u] g9 fun x60 h_1 => CallP Tryz.prog 29 [x60] h_1 fun x61 h_2 => OP (iExt 0 x61) fun x62 => OP (iExt 1 x61) fun x63 => OP (iUn .not (B (decide (s ≤ 1024)))) fun x65 => IfP x65 (OP (iBin .eql x63 (.int .i64 (5))) fun x67 => p6z37 Tryz.prog K x62 x67 h_2) (OP (iBin .neq x63 (.int .i64 (0))) fun x74 => p6z43 Tryz.prog K u x62 x74 h_2) := by
          refine C28 hs9 (by omega) ?_
          intro ua ga xa owna
          have na := own_ns owna (by omega)
          refine C29 na hl hp hok (fun hbig gb xb => ?_) (fun hsm w gb xb ownb => ?_)
          · rw [hS] at hbig
            rw [decide_eq_false (show ¬ s ≤ 1024 by omega)]
            simp only [ext_tuple, pair0, pair1, OP_some, un_not, Bool.not_false, IfP_true, bin_eql, decide_true, q6z37, GdP_tt, l0, q6z39, iPick_t]
            exact hk _
          · obtain ⟨okp, nbp, lnp⟩ := plain_ok hok hl hsm
            rw [hS] at hsm
            rw [decide_eq_true hsm]
            have h0p : plainW (W.map List.length) ≠ [] := by
              intro e
              rw [e] at lnp
              rw [← lnp] at hp
              simp at hp
            have fewp := okp.few
            have hsp := own_ss ownb
            simp only [ext_tuple, pair0, pair1, OP_some, un_not, Bool.not_true, IfP_false, bin_neq, decide_true, q6z43, GdP_ff]
            refine C30 hsp (by omega) (ok_len okp).2 ?_
            rw [chk0 okp h0p]
            simp only [bin_neq, OP_some, decide_true, Bool.not_true, q6z45, iPick_f, q6z47, GdP_ff]
            refine C28 hsp (by omega) ?_
            intro uc gc xc ownc
            rw [lnp] at ownc
            refine C28 (hs9.mono (xa.trans (xb.trans xc))) (by omega) ?_
            intro ud gd xd ownd
            refine C23 ((own_ns ownc (by omega)).mono xd) (own_ns ownd (by omega)) (by rw [List.length_map]; omega) ?_
            simp only [un_not, OP_some, Bool.not_true, q6z49, iPick_f, IfP_false]
            refine C31 (own9 (xc.trans xd) ownb) (by omega) (ok_len okp).2 (fun hc => absurd (chk0 okp h0p) hc) (fun _ _ ge xe => ?_) (fun _ i j f => (f.no nbp).elim)
            simp only [ext_tuple, pair0, pair1, OP_some]
            refine clearC okp h0p (own9 (xc.trans (xd.trans xe)) ownb) (fun _ gf _ => ?_) (fun t r => (noRcB nbp r).elim)
            simp only [ext_tuple, pair0, pair1, OP_some, bin_eql, decide_true, q6z55, GdP_tt, q6z57, iPick_t]
            exact hk _
        refine ⟨?_, ?_⟩
        · rw [q6z30]
          simp only [iPick_f, OP_some, IfP_false]
          exact core
        · rw [q6z30]
          simp only [iPick_t, OP_some, IfP_false]
          exact core
      simp only [bin_leq, sg, OP_some, bin_eql]
      rcases he with rfl | ⟨rfl, hs⟩
      · have e05 : decide ((0 : Int) = 5) = false := rfl
        simp only [e05, q6z28, GdP_ft]
        exact last.1
      · have hd := decide_eq_true hs
        rw [hd] at last ⊢
        simp only [decide_true, q6z28, GdP_tt, un_not, OP_some, Bool.not_true]
        exact last.2
    simp only [un_not, OP_some, Bool.not_true, q6z10, iPick_f, q6z12, GdP_ff, bin_neq]
    rcases he with rfl | ⟨rfl, hs⟩
    · simp only [decide_true, Bool.not_true, q6z14, GdP_ft, q6z16, GdP_ff, iPick_f, OP_some]
      exact after g5 (EX.refl _)
    · have e5 : decide ((5 : Int) = 0) = false := rfl
      simp only [e5, Bool.not_false, q6z14, GdP_tt, bin_neq, decide_true, Bool.not_true, OP_some, q6z16, GdP_ff, iPick_t]
      exact after g5 (EX.refl _)
  refine clearC ok h0 own (fun hno h2 x2 => ?_) (fun t r _ h2 x2 => ?_)
  · simp only [ext_tuple, pair0, pair1, OP_some]
    refine main 5 h2 x2 (.inr ⟨rfl, ?_⟩)
    rw [← ts]
    refine mcmillan ok fun t ha => ?_
    obtain ⟨t', r, _⟩ := ha.rc ok.ne
    exact hno t' r
  · simp only [ext_tuple, pair0, pair1, OP_some]
    exact main 0 h2 x2 (.inl rfl)

end Go.Proofs.YthplaillblmgfaaGreatDoor

