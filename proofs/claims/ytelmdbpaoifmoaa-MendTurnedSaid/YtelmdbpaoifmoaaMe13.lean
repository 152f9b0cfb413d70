/-
  The document's tables of sets, as a call fills them.
-/
import Derived.Test.YtelmdbpaoifmoaaMe12
import Derived.Test.YtelmdbpaoifmoaaMgs
namespace Go.Proofs.Ytelmdbpaoifmoaa
open Go.Sim

theorem sumB_stop (f : Nat → Int) {s n : Nat} (hs : s < 2 ^ n) : ∀ k, sumB f s (n + k) = sumB f s n
  | 0 => rfl
  | k + 1 => by
    have hb : s.testBit (n + k) = false := by
      cases h : s.testBit (n + k) with
      | false => rfl
      | true => have := bit_lt hs h; omega
    rw [show n + (k + 1) = n + k + 1 from rfl]
    simp only [sumB, sumB_stop f hs k, hb]
    simp

theorem now_sumB {js : List (Int × Int)} {s n : Nat} (hs : s < 2 ^ n) (hn : n ≤ 10) : nowS js s = sumB (lenJ js) s n := by
  unfold nowS
  rw [sumB_list, show 10 = n + (10 - n) by omega]
  exact sumB_stop _ hs _

theorem sumB_small {js : List (Int × Int)} (h : smallF js) (s : Nat) : ∀ m, 0 ≤ sumB (lenJ js) s m ∧ sumB (lenJ js) s m ≤ 50 * m
  | 0 => by simp [sumB]
  | m + 1 => by
    have ih := sumB_small h s m
    have := h m
    simp only [sumB]
    split <;> omega

theorem WB_bound {bs : List Nat} {js : List (Int × Int)} {n : Nat} (hn : n ≤ 10) : ∀ (f s : Nat), s ≤ f → s < 2 ^ n → 0 ≤ WB bs js n s ∧ WB bs js n s ≤ 10 ^ cardS s n := by
  intro f
  induction f with
  | zero =>
    intro s hs _
    have e : s = 0 := by omega
    subst e
    rw [(EB_zero bs js n).1, cardS_zero]
    decide
  | succ f ih =>
    intro s hs hs2
    by_cases h0 : s = 0
    · exact ih s (by omega) hs2
    · rw [(EB_rec bs js n h0).1]
      have hc1 : 1 ≤ cardS s n := by
        obtain ⟨i, hi⟩ := bit_of_ne h0
        have := cardS_or (difS s (2 ^ i)) i n
        rw [dif_or hi, if_pos ⟨bit_lt hs2 hi, by rw [difS_bit, Nat.testBit_two_pow_self]; simp⟩] at this
        omega
      have key : ∀ m, m ≤ n → 0 ≤ sumW' bs (WB bs js n) s m ∧ sumW' bs (WB bs js n) s m ≤ m * 10 ^ (cardS s n - 1) := by
        intro m hm
        induction m with
        | zero => simp [sumW']
        | succ m ihm =>
          have ihm := ihm (by omega)
          have hp : (0 : Int) ≤ 10 ^ (cardS s n - 1) := Int.le_of_lt (pow10_pos _)
          have e1 : ((m + 1 : Nat) : Int) * 10 ^ (cardS s n - 1) = m * 10 ^ (cardS s n - 1) + 10 ^ (cardS s n - 1) := by rw [Int.natCast_add, Int.add_mul]; simp
          simp only [sumW']
          rw [e1]
          split
          · rename_i hg
            have hb := goB_bit hg
            have hlt := dif_pow_lt hb
            have h1 := ih _ (by omega) (show difS s (2 ^ m) < 2 ^ n by omega)
            have := cardS_or (difS s (2 ^ m)) m n
            rw [dif_or hb, if_pos ⟨by omega, by rw [difS_bit, Nat.testBit_two_pow_self]; simp⟩] at this
            rw [show cardS (difS s (2 ^ m)) n = cardS s n - 1 by omega] at h1
            omega
          · omega
      have h1 := key n (Nat.le_refl _)
      refine ⟨h1.1, Int.le_trans h1.2 ?_⟩
      have hp : (0 : Int) ≤ 10 ^ (cardS s n - 1) := Int.le_of_lt (pow10_pos _)
      have h2 : (n : Int) * 10 ^ (cardS s n - 1) ≤ 10 * 10 ^ (cardS s n - 1) := Int.mul_le_mul_of_nonneg_right (by omega) hp
      obtain ⟨c, hc⟩ : ∃ c, cardS s n = c + 1 := ⟨cardS s n - 1, by omega⟩
      rw [hc, Nat.add_sub_cancel] at h2 ⊢
      rw [Int.pow_succ, Int.mul_comm (10 ^ c)]
      exact h2

theorem WB_range {bs : List Nat} {js : List (Int × Int)} {n : Nat} (hn : n ≤ 10) {s : Nat} (hs : s < 2 ^ n) : 0 ≤ WB bs js n s ∧ WB bs js n s ≤ 10000000000 := by
  have h1 := WB_bound (bs := bs) (js := js) hn s s (Nat.le_refl _) hs
  have h2 := cardS_le s n
  have h3 : (10 : Int) ^ cardS s n ≤ 10 ^ 10 := by
    have : (10 : Nat) ^ cardS s n ≤ 10 ^ 10 := Nat.pow_le_pow_right (by decide) (by omega)
    have e : ∀ k : Nat, ((10 ^ k : Nat) : Int) = (10 : Int) ^ k := fun k => by rw [Int.natCast_pow]; rfl
    rw [← e, ← e]; omega
  have e : (10 : Int) ^ 10 = 10000000000 := by decide
  omega

theorem sumW_range {bs : List Nat} {js : List (Int × Int)} {n : Nat} (hn : n ≤ 10) {s : Nat} (hs : s < 2 ^ n) : ∀ m, m ≤ n → 0 ≤ sumW' bs (WB bs js n) s m ∧ sumW' bs (WB bs js n) s m ≤ m * 10000000000
  | 0, _ => by simp [sumW']
  | m + 1, hm => by
    have ih := sumW_range (bs := bs) (js := js) hn hs m (by omega)
    simp only [sumW']
    split
    · rename_i hg
      have := dif_pow_lt (goB_bit hg)
      have := WB_range (bs := bs) (js := js) hn (show difS s (2 ^ m) < 2 ^ n by omega)
      omega
    · omega

theorem CB_range {bs : List Nat} {js : List (Int × Int)} (hj : smallF js) {n : Nat} (hn : n ≤ 10) {s : Nat} (hs : s < 2 ^ n) (hw : WB bs js n s ≠ 0) : 0 ≤ CB bs js n s ∧ CB bs js n s ≤ 500000 := by
  obtain ⟨⟨l, a, b, c⟩, _, h0⟩ := CB_spec hj hn s s (Nat.le_refl _) hs hw
  have := ok_len10 hn a
  have := (cost_bound hj l 0 (Int.le_refl _) (by omega)).1
  omega

theorem goB_parts {bs : List Nat} {W : Nat → Int} {s j : Nat} (hg : goB bs W s j = true) : (s.testBit j = true ∧ W (difS s (2 ^ j)) ≠ 0) ∧ subB (bs.getD j 0) (difS s (2 ^ j)) = true := by
  unfold goB at hg
  simp only [Bool.and_eq_true, Bool.not_eq_true', decide_eq_false_iff_not] at hg
  exact hg

theorem step_range {js : List (Int × Int)} (hj : smallF js) (s j : Nat) : 0 ≤ weiJ js j * nowS js s ∧ weiJ js j * nowS js s ≤ 25000 := by
  have h1 := now_bound hj s
  have h2 := hj j
  have h3 : 0 ≤ weiJ js j * nowS js s := Int.mul_nonneg h2.2.1 h1.1
  have h4 : weiJ js j * nowS js s ≤ 50 * 500 := Int.mul_le_mul h2.2.2 h1.2 h1.1 (by omega)
  omega

theorem minW_range {bs : List Nat} {js : List (Int × Int)} (hj : smallF js) {n : Nat} (hn : n ≤ 10) {s : Nat} (hs : s < 2 ^ n) {m : Nat} : -1 ≤ minW' bs js (WB bs js n) (CB bs js n) s m ∧ minW' bs js (WB bs js n) (CB bs js n) s m ≤ 600000 := by
  have hp : ∀ j, j < m → goB bs (WB bs js n) s j = true → 0 ≤ CB bs js n (difS s (2 ^ j)) + weiJ js j * nowS js s := by
    intro j _ hg
    obtain ⟨⟨g1, g2⟩, g3⟩ := goB_parts hg
    have := dif_pow_lt g1
    have := CB_range hj hn (show difS s (2 ^ j) < 2 ^ n by omega) g2
    have := step_range hj s j
    omega
  rcases minW_spec hp with ⟨e, _⟩ | ⟨h0, ⟨j, j1, j2, j3⟩, _⟩
  · omega
  · obtain ⟨⟨g1, g2⟩, g3⟩ := goB_parts j2
    have := dif_pow_lt g1
    have := CB_range hj hn (show difS s (2 ^ j) < 2 ^ n by omega) g2
    have := step_range hj s j
    omega

theorem obI {g : Heap} {i m : Nat} {l : List Int} (hi : g[i]? = some (.arr 3 (l.map fun x : Int => I x))) : iObj g (sl 3 i 0 m) = some (.agg (Value.int .i64 3 :: l.map fun x : Int => I x).toArray) := by
  have : (l.map fun x : Int => I x).all noId = true := by
    rw [List.all_map, List.all_eq_true]
    intro x _; rfl
  simp only [iObj, idOf, sl, Option.bind_some, hi, encObj, this, if_true]
  rfl

theorem getD_set {l : List Int} {i k : Nat} {x : Int} (hi : i < l.length) : (l.set i x).getD k 0 = if k = i then x else l.getD k 0 := by
  simp only [List.getD_eq_getElem?_getD, List.getElem?_set]
  by_cases h : k = i
  · subst h; simp [hi]
  · rw [if_neg (fun e => h e.symm), if_neg h]

theorem bitAnd {s j : Nat} (hs : s < 1024) : iBin .and (.int .i64 ((s / 2 ^ j : Nat) : Int)) (.int .i64 1) = some (.int .i64 ((s / 2 ^ j &&& 1 : Nat) : Int)) :=
  andK skI (Nat.lt_of_le_of_lt (Nat.div_le_self _ _) hs) (show 1 < 1024 by decide)

theorem bit_one (s j : Nat) : decide (((s / 2 ^ j &&& 1 : Nat) : Int) = 1) = s.testBit j := by
  rw [Nat.testBit_eq_decide_div_mod_eq, bit_and, decide_eq_decide]; omega
theorem bit_nil (s j : Nat) : decide (((s / 2 ^ j &&& 1 : Nat) : Int) = 0) = !s.testBit j := by
  rw [Nat.testBit_eq_decide_div_mod_eq, bit_and, ← decide_not, decide_eq_decide]; omega

set_option maxHeartbeats 1000000 in
theorem C21 {vj vp : Value} {js ps : List (Int × Int)} {bs : List Nat} {n : Nat} {h : Heap} {K : Value → Heap → Prop} (v : Vd js ps n bs) (hj : PS h vj js) (hp : PS h vp ps)
    (hk : ∀ h', EX h h' → K (.tuple #[I (minS bs js n 0), I (lefts bs n 0)]) h') : CallP Try.prog 21 [vj, vp] h K := by
  rw [← CB_full v.small.all v.n10 v.ac, ← WB_full bs js n] at hk
  have hn := v.hn
  have h10 := v.n10
  have h1 := v.n1
  have hsF : smallF js := v.small.all
  have two := v.two
  have hN2 : 2 ≤ 2 ^ n := by have := Nat.pow_le_pow_right (show 0 < 2 by decide) h1; simpa using this
  refine f21 ?_
  have hz : ∀ m, zrep [Value.int .i64 0] m = (List.replicate m 0).map fun b : Int => I b := by
    intro m
    induction m with
    | zero => rfl
    | succ m ih =>
      have : zrep [Value.int .i64 0] (m + 1) = Value.int .i64 0 :: zrep [Value.int .i64 0] m := by simp [zrep, List.replicate_succ]
      rw [this, ih, List.replicate_succ]; rfl
  have mk : ∀ g : Heap, iMake 3 8 [.int .i64 0] g (I (2 ^ n : Nat)) (I (2 ^ n : Nat)) = some (sl 3 g.length 0 (2 ^ n), g ++ [.arr 3 ((List.replicate (2 ^ n) 0).map fun b : Int => I b)]) := by
    intro g
    simp only [iMake]
    rw [if_pos ⟨by omega, by omega, by omega, by omega⟩, Int.toNat_natCast, hz]
  have sh : iBin .shl (.int .i64 1) (I n) = some (I (2 ^ n : Nat)) := shlK skI (show n < 11 by omega)
  simp only [T21, hj.len, hn, OP_some, sh, mk, OH_some]
  have xa : EX h (h ++ [.arr 3 ((List.replicate (2 ^ n) 0).map fun b : Int => I b)]) := EX.append _ _
  have ka : (h ++ [IObj.arr 3 ((List.replicate (2 ^ n) 0).map fun b : Int => I b)])[h.length]? = some (.arr 3 ((List.replicate (2 ^ n) 0).map fun b : Int => I b)) := get_last
  have la : (h ++ [IObj.arr 3 ((List.replicate (2 ^ n) 0).map fun b : Int => I b)]).length = h.length + 1 := by simp
  generalize h ++ [IObj.arr 3 ((List.replicate (2 ^ n) 0).map fun b : Int => I b)] = ga at xa ka la ⊢
  have xb : EX ga (ga ++ [.arr 3 ((List.replicate (2 ^ n) 0).map fun b : Int => I b)]) := EX.append _ _
  have kb : (ga ++ [IObj.arr 3 ((List.replicate (2 ^ n) 0).map fun b : Int => I b)])[ga.length]? = some (.arr 3 ((List.replicate (2 ^ n) 0).map fun b : Int => I b)) := get_last
  generalize ga ++ [IObj.arr 3 ((List.replicate (2 ^ n) 0).map fun b : Int => I b)] = gb at xb kb ⊢
  have kba := xb.get ka
  have ad0 : iAdrSl 1 (sl 3 ga.length 0 (2 ^ n)) (I 0) = some (pt ga.length 0) := adr_sl (show 0 < 2 ^ n by omega)
  simp only [obI ka, obI kba, obI kb, OP_some, true_and, ad0]
  rw [store_at kb (by simp; omega) rfl rfl]
  simp only [OH_some]
  have x0 : EX h (gb.set ga.length (.arr 3 (((List.replicate (2 ^ n) 0).map fun b : Int => I b).set 0 (I 1)))) := (xa.trans xb).set (by omega) _
  have c0 : (gb.set ga.length (.arr 3 (((List.replicate (2 ^ n) 0).map fun b : Int => I b).set 0 (I 1))))[h.length]? = some (.arr 3 ((List.replicate (2 ^ n) 0).map fun b : Int => I b)) := by
    rw [List.getElem?_set_ne (by omega)]; exact kba
  have w0 : (gb.set ga.length (.arr 3 (((List.replicate (2 ^ n) 0).map fun b : Int => I b).set 0 (I 1))))[ga.length]? = some (.arr 3 (((List.replicate (2 ^ n) 0).set 0 1).map fun b : Int => I b)) := by
    rw [set_get kb, List.map_set]
  have rz : ∀ k, (List.replicate (2 ^ n) (0 : Int)).getD k 0 = 0 := by
    intro k
    simp only [List.getD_eq_getElem?_getD, List.getElem?_replicate]
    split <;> rfl
  refine loopL (σ := Nat × List Int × List Int × Heap) (fun q => [I q.1]) (fun q => q.2.2.2)
    (fun q => (1 ≤ q.1 ∧ q.1 ≤ 2 ^ n) ∧ EX h q.2.2.2 ∧ (q.2.2.2[h.length]? = some (.arr 3 (q.2.1.map fun b : Int => I b)) ∧ q.2.1.length = 2 ^ n) ∧ (q.2.2.2[ga.length]? = some (.arr 3 (q.2.2.1.map fun b : Int => I b)) ∧ q.2.2.1.length = 2 ^ n) ∧
      (∀ t, t < q.1 → q.2.1.getD t 0 = CB bs js n t ∧ q.2.2.1.getD t 0 = WB bs js n t) ∧ ∀ t, q.1 ≤ t → q.2.2.1.getD t 0 = 0) (fun q => 2 ^ n - q.1)
    (1, List.replicate (2 ^ n) 0, (List.replicate (2 ^ n) 0).set 0 1, _) rfl rfl
    ⟨⟨Nat.le_refl _, by omega⟩, x0, ⟨c0, by simp⟩, ⟨w0, by simp⟩, fun t ht => by
      have e : t = 0 := by simp only at ht; omega
      subst e
      show (List.replicate (2 ^ n) (0 : Int)).getD 0 0 = _ ∧ ((List.replicate (2 ^ n) (0 : Int)).set 0 1).getD 0 0 = _
      rw [rz, getD_set (by simp; omega), (EB_zero bs js n).1, (EB_zero bs js n).2]
      exact ⟨rfl, rfl⟩, fun t ht => by
      show ((List.replicate (2 ^ n) (0 : Int)).set 0 1).getD t 0 = 0
      rw [getD_set (by simp; omega), rz, if_neg (by simp only at ht; omega)]⟩ ?_
  rintro ⟨s, cs, ws, g⟩ ⟨⟨hs1, hs⟩, xg, ⟨kc, cl⟩, ⟨kw, wl⟩, htab, hzero⟩ L hL
  simp only at hs1 hs xg kc cl kw wl htab hzero hL ⊢
  have hcw : h.length ≠ ga.length := by omega
  have ldA : ∀ {g' : Heap} {d t : Nat} {l : List Int}, g'[d]? = some (.arr 3 (l.map fun b : Int => I b)) → t < l.length → iLoad false 1 g' (pt d t) = some (I (l.getD t 0)) := by
    intro g' d t l hd ht
    simp [iLoad, objCells, hd, iPart, List.getD_eq_getElem?_getD, ht]
  rw [q21z8]
  simp only [sh, OP_some, bin_lss, IfP_dec]
  refine ⟨fun hlt => ?_, fun hge => ?_⟩
  rotate_left
  · have hse : s = 2 ^ n := by omega
    have hF : IntKind.wrap .i64 (((2 ^ n : Nat) : Int) - 1) = ((fullS n : Nat) : Int) := by
      rw [wrap64 (by omega) (by omega)]
      unfold fullS; omega
    have hFl : fullS n < 2 ^ n := fullS_lt n
    rw [q21z53]
    simp only [sh, OP_some, bin_sub, hF, adr_sl hFl, ldA kc (show fullS n < cs.length by omega), ldA kw (show fullS n < ws.length by omega), true_and]
    rw [(htab _ (by omega)).1, (htab _ (by omega)).2]
    exact hk g xg
  have hlt' : s < 2 ^ n := by omega
  have hs0 : s ≠ 0 := by omega
  simp only [adr_sl hlt', OP_some]
  rw [store_at kc (by simp; omega) rfl rfl]
  simp only [OH_some]
  have es : ∀ (l : List Int) (i : Nat) (x : Int), (l.map fun b : Int => I b).set i (I x) = (l.set i x).map fun b : Int => I b := fun l i x => by rw [List.map_set]
  rw [es]
  have x1 : EX h (g.set h.length (.arr 3 ((cs.set s (-1)).map fun b : Int => I b))) := xg.set (Nat.le_refl _) _
  have kc1 : (g.set h.length (.arr 3 ((cs.set s (-1)).map fun b : Int => I b)))[h.length]? = some (.arr 3 ((cs.set s (-1)).map fun b : Int => I b)) := set_get kc
  have kw1 : (g.set h.length (.arr 3 ((cs.set s (-1)).map fun b : Int => I b)))[ga.length]? = some (.arr 3 (ws.map fun b : Int => I b)) := by
    rw [List.getElem?_set_ne hcw]; exact kw
  generalize g.set h.length (.arr 3 ((cs.set s (-1)).map fun b : Int => I b)) = g1 at x1 kc1 kw1 ⊢
  -- the time at the end of the set
  refine loopL (σ := Nat) (fun j => [I (sumB (lenJ js) s j), I j]) (fun _ => g1) (fun j => j ≤ n) (fun j => n - j) 0 rfl rfl (Nat.zero_le _) ?_
  intro j hjn L2 hL2
  rw [q21z18]
  simp only [bin_lss, OP_some, IfP_dec]
  refine ⟨fun hlt2 => ?_, fun hge2 => ?_⟩
  · have hjl : j < js.length := by omega
    have hsb := sumB_small hsF s j
    have hjs := hsF j
    have nx : ∀ e : Int, e = sumB (lenJ js) s (j + 1) → p21z24 Try.prog K vj vp (I n) (sl 3 h.length 0 (2 ^ n)) (sl 3 ga.length 0 (2 ^ n)) (I s) (I e) (I j) L L2 g1 := by
      intro e he
      subst he
      rw [q21z24]
      simp only [bin_add, OP_some, inc j (by omega), true_and]
      exact hL2 (j + 1) (by omega) (by omega)
    simp only [shrK skI (show j < 16 by omega), OP_some, bitAnd (show s < 1024 by omega), bin_eql, bit_one]
    refine IfP_of (fun ht => ?_) fun ht => ?_
    · obtain ⟨b, o, r1, r2, r3, r4⟩ := PS.getD (hj.mono x1) hjl
      have r2' : iLoad false 1 g1 (pt b o) = some (I (lenJ js j)) := r2
      have hw : IntKind.wrap .i64 (sumB (lenJ js) s j + lenJ js j) = sumB (lenJ js) s j + lenJ js j := wrap64 (by omega) (by omega)
      simp only [r1, OP_some, fadr_pt, Nat.add_zero, r2', bin_add, hw]
      exact nx _ (by simp only [sumB, ht, if_true])
    · exact nx _ (by simp only [sumB, ht]; simp)
  · have hje : j = n := by omega
    subst hje
    rw [q21z25, ← now_sumB hlt' h10]
    refine loopL (σ := Nat × Heap) (fun q => [I q.1]) (fun q => q.2)
      (fun q => q.1 ≤ j ∧ EX h q.2 ∧ q.2[h.length]? = some (.arr 3 ((cs.set s (minW' bs js (WB bs js j) (CB bs js j) s q.1)).map fun b : Int => I b)) ∧ q.2[ga.length]? = some (.arr 3 ((ws.set s (sumW' bs (WB bs js j) s q.1)).map fun b : Int => I b))) (fun q => j - q.1)
      (0, g1) rfl rfl ⟨Nat.zero_le _, x1, kc1, by
        have : ws.set s (sumW' bs (WB bs js j) s 0) = ws := by
          have h0 : ws.getD s 0 = 0 := hzero s (Nat.le_refl _)
          apply List.ext_getElem?
          intro k
          rw [List.getElem?_set]
          split
          · rename_i e
            subst e
            rw [if_pos (by omega), List.getElem?_eq_getElem (by omega)]
            rw [List.getD_eq_getElem?_getD, List.getElem?_eq_getElem (by omega)] at h0
            simp only [Option.getD_some] at h0
            rw [h0]; rfl
          · rfl
        rw [this]; exact kw1⟩ ?_
    rintro ⟨i, g2⟩ ⟨hi, x2, kc2, kw2⟩ L3 hL3
    simp only at hi x2 kc2 kw2 hL3 ⊢
    rw [q21z28]
    simp only [bin_lss, OP_some, IfP_dec]
    refine ⟨fun hlt3 => ?_, fun hge3 => ?_⟩
    · have hin : i < j := by omega
      have hp2 : (2 : Nat) ^ i < 1024 := Nat.lt_of_lt_of_le (Nat.pow_lt_pow_right (by decide) (show i < 10 by omega)) (by decide)
      simp only [shlK skI (show i < 11 by omega), OP_some, andNotD skI (show s < 1024 by omega) hp2, shrK skI (show i < 16 by omega), bitAnd (show s < 1024 by omega), bin_eql, bit_nil]
      have fin : ∀ g3 : Heap, EX h g3 → g3[h.length]? = some (.arr 3 ((cs.set s (minW' bs js (WB bs js j) (CB bs js j) s (i + 1))).map fun b : Int => I b)) → g3[ga.length]? = some (.arr 3 ((ws.set s (sumW' bs (WB bs js j) s (i + 1))).map fun b : Int => I b)) →
          p21z51 Try.prog K vj vp (I j) (sl 3 h.length 0 (2 ^ j)) (sl 3 ga.length 0 (2 ^ j)) (I s) (I (nowS js s)) (I i) L L3 g3 := by
        intro g3 x3 a b
        rw [q21z51]
        simp only [bin_add, OP_some, inc i (by omega), true_and]
        exact hL3 (i + 1, g3) ⟨by show i + 1 ≤ j; omega, x3, a, b⟩ (by show j - (i + 1) < j - i; omega)
      have skip : goB bs (WB bs js j) s i = false → p21z51 Try.prog K vj vp (I j) (sl 3 h.length 0 (2 ^ j)) (sl 3 ga.length 0 (2 ^ j)) (I s) (I (nowS js s)) (I i) L L3 g2 := by
        intro hg
        refine fin g2 x2 ?_ ?_
        · simp only [minW', hg]; exact kc2
        · simp only [sumW', hg]; exact kw2
      rw [q21z37]
      cases ht : s.testBit i with
      | false =>
        simp only [Bool.not_false, GdP_tf]
        rw [q21z39]
        simp only [iPick_t, OP_some]
        rw [q21z41]
        simp only [GdP_tf]
        rw [q21z43]
        simp only [iPick_t, OP_some, IfP_true]
        exact skip (by unfold goB; rw [ht]; rfl)
      | true =>
        have hdl := dif_pow_lt ht
        have hdN : difS s (2 ^ i) < 2 ^ j := by omega
        have hdne : difS s (2 ^ i) ≠ s := by omega
        have wget : (ws.set s (sumW' bs (WB bs js j) s i)).getD (difS s (2 ^ i)) 0 = WB bs js j (difS s (2 ^ i)) := by
          rw [getD_set (by omega), if_neg hdne]
          exact (htab _ hdl).2
        have cget : (cs.set s (minW' bs js (WB bs js j) (CB bs js j) s i)).getD (difS s (2 ^ i)) 0 = CB bs js j (difS s (2 ^ i)) := by
          rw [getD_set (by omega), if_neg hdne]
          exact (htab _ hdl).1
        have wself : (ws.set s (sumW' bs (WB bs js j) s i)).getD s 0 = sumW' bs (WB bs js j) s i := by rw [getD_set (by omega), if_pos rfl]
        have cself : (cs.set s (minW' bs js (WB bs js j) (CB bs js j) s i)).getD s 0 = minW' bs js (WB bs js j) (CB bs js j) s i := by rw [getD_set (by omega), if_pos rfl]
        simp only [Bool.not_true, GdP_ff, adr_sl hdN, OP_some, ldA kw2 (show difS s (2 ^ i) < (ws.set s (sumW' bs (WB bs js j) s i)).length by rw [List.length_set]; omega), wget, bin_eql]
        rw [q21z39]
        simp only [iPick_f, OP_some]
        rw [q21z41]
        by_cases hz0 : WB bs js j (difS s (2 ^ i)) = 0
        · rw [decide_eq_true hz0]
          simp only [GdP_tf]
          rw [q21z43]
          simp only [iPick_t, OP_some, IfP_true]
          exact skip (by unfold goB; rw [decide_eq_true hz0]; simp)
        rw [decide_eq_false hz0]
        simp only [GdP_ff]
        refine C28 (hp.mono x2) (by have := v.p40; omega) v.pairs h10 hin ?_
        rw [← v.eq]
        have hba := v.is.getD_lt i
        simp only [andNotD skI (show bs.getD i 0 < 1024 by omega) (show difS s (2 ^ i) < 1024 by omega), OP_some, bin_neq]
        rw [q21z43]
        cases hsub : subB (bs.getD i 0) (difS s (2 ^ i)) with
        | false =>
          have hne : ¬ (((difS (bs.getD i 0) (difS s (2 ^ i)) : Nat) : Int) = 0) := by
            intro h0
            have := difS_zero.1 (show difS (bs.getD i 0) (difS s (2 ^ i)) = 0 by omega)
            rw [hsub] at this; cases this
          rw [decide_eq_false hne]
          simp only [Bool.not_false, iPick_f, OP_some, IfP_true]
          exact skip (by unfold goB; rw [hsub]; simp)
        | true =>
          have hg : goB bs (WB bs js j) s i = true := by unfold goB; rw [ht, hsub, decide_eq_false hz0]; rfl
          have h0 : ((difS (bs.getD i 0) (difS s (2 ^ i)) : Nat) : Int) = 0 := by rw [difS_zero.2 hsub]; rfl
          rw [decide_eq_true h0]
          have b1 := sumW_range (bs := bs) (js := js) h10 hlt' i (by omega)
          have b2 := WB_range (bs := bs) (js := js) h10 hdN
          have b3 := CB_range hsF h10 hdN hz0
          have b4 := step_range hsF s i
          have b5 := minW_range (bs := bs) (m := i) hsF h10 hlt'
          have hw1 : IntKind.wrap .i64 (sumW' bs (WB bs js j) s i + WB bs js j (difS s (2 ^ i))) = sumW' bs (WB bs js j) s (i + 1) := by
            rw [wrap64 (by omega) (by omega)]; simp only [sumW', hg, if_true]
          have hw2 : IntKind.wrap .i64 (weiJ js i * nowS js s) = weiJ js i * nowS js s := wrap64 (by omega) (by omega)
          have hw3 : IntKind.wrap .i64 (CB bs js j (difS s (2 ^ i)) + weiJ js i * nowS js s) = CB bs js j (difS s (2 ^ i)) + weiJ js i * nowS js s := wrap64 (by omega) (by omega)
          simp only [Bool.not_true, iPick_f, OP_some, IfP_false, adr_sl hlt', adr_sl hdN, ldA kw2 (show difS s (2 ^ i) < (ws.set s (sumW' bs (WB bs js j) s i)).length by rw [List.length_set]; omega), ldA kw2 (show s < (ws.set s (sumW' bs (WB bs js j) s i)).length by rw [List.length_set]; omega), wget, wself, true_and, bin_add, hw1]
          rw [store_at kw2 (by simp; omega) rfl rfl]
          simp only [OH_some]
          rw [es, List.set_set]
          have x3 : EX h (g2.set ga.length (.arr 3 ((ws.set s (sumW' bs (WB bs js j) s (i + 1))).map fun b : Int => I b))) := x2.set (by omega) _
          have kw3 : (g2.set ga.length (.arr 3 ((ws.set s (sumW' bs (WB bs js j) s (i + 1))).map fun b : Int => I b)))[ga.length]? = some (.arr 3 ((ws.set s (sumW' bs (WB bs js j) s (i + 1))).map fun b : Int => I b)) := set_get kw2
          have kc3 : (g2.set ga.length (.arr 3 ((ws.set s (sumW' bs (WB bs js j) s (i + 1))).map fun b : Int => I b)))[h.length]? = some (.arr 3 ((cs.set s (minW' bs js (WB bs js j) (CB bs js j) s i)).map fun b : Int => I b)) := by
            rw [List.getElem?_set_ne (fun e => hcw e.symm)]; exact kc2
          generalize g2.set ga.length (.arr 3 ((ws.set s (sumW' bs (WB bs js j) s (i + 1))).map fun b : Int => I b)) = g3 at x3 kw3 kc3 ⊢
          obtain ⟨b, o, r1, r2, r3, r4⟩ := PS.getD (hj.mono x3) (show i < js.length by omega)
          have r3' : iLoad false 1 g3 (pt b (o + 1)) = some (I (weiJ js i)) := r3
          simp only [ldA kc3 (show difS s (2 ^ i) < (cs.set s (minW' bs js (WB bs js j) (CB bs js j) s i)).length by rw [List.length_set]; omega), ldA kc3 (show s < (cs.set s (minW' bs js (WB bs js j) (CB bs js j) s i)).length by rw [List.length_set]; omega), cget, cself, OP_some, true_and, r1, fadr_pt, r3', bin_mul, hw2, bin_add, hw3, bin_lss]
          have set' : p21z51 Try.prog K vj vp (I j) (sl 3 h.length 0 (2 ^ j)) (sl 3 ga.length 0 (2 ^ j)) (I s) (I (nowS js s)) (I i) L L3 (g3.set h.length (.arr 3 ((cs.set s (CB bs js j (difS s (2 ^ i)) + weiJ js i * nowS js s)).map fun b : Int => I b))) ∨ True := .inr trivial
          clear set'
          have take : minW' bs js (WB bs js j) (CB bs js j) s (i + 1) = CB bs js j (difS s (2 ^ i)) + weiJ js i * nowS js s → p21z51 Try.prog K vj vp (I j) (sl 3 h.length 0 (2 ^ j)) (sl 3 ga.length 0 (2 ^ j)) (I s) (I (nowS js s)) (I i) L L3
              (g3.set h.length (.arr 3 (((cs.set s (minW' bs js (WB bs js j) (CB bs js j) s i)).map fun b : Int => I b).set s (I (CB bs js j (difS s (2 ^ i)) + weiJ js i * nowS js s))))) := by
            intro e
            rw [es, List.set_set, ← e]
            exact fin _ (x3.set (Nat.le_refl _) _) (set_get kc3) (by rw [List.getElem?_set_ne hcw]; exact kw3)
          have leave : minW' bs js (WB bs js j) (CB bs js j) s (i + 1) = minW' bs js (WB bs js j) (CB bs js j) s i → p21z51 Try.prog K vj vp (I j) (sl 3 h.length 0 (2 ^ j)) (sl 3 ga.length 0 (2 ^ j)) (I s) (I (nowS js s)) (I i) L L3 g3 := by
            intro e
            exact fin g3 x3 (by rw [e]; exact kc3) kw3
          rw [q21z48]
          by_cases hneg : minW' bs js (WB bs js j) (CB bs js j) s i < 0
          · rw [decide_eq_true hneg]
            simp only [GdP_tf]
            rw [q21z50]
            simp only [iPick_t, OP_some, IfP_true, adr_sl hlt']
            rw [store_at kc3 (by simp; omega) rfl rfl]
            simp only [OH_some]
            exact take (by simp only [minW', hg, if_true]; rw [if_pos (.inl hneg)])
          · rw [decide_eq_false hneg]
            simp only [GdP_ff, adr_sl hlt', OP_some, ldA kc3 (show s < (cs.set s (minW' bs js (WB bs js j) (CB bs js j) s i)).length by rw [List.length_set]; omega), cself, bin_lss]
            rw [q21z50]
            by_cases hl2 : CB bs js j (difS s (2 ^ i)) + weiJ js i * nowS js s < minW' bs js (WB bs js j) (CB bs js j) s i
            · rw [decide_eq_true hl2]
              simp only [iPick_f, OP_some, IfP_true, adr_sl hlt']
              rw [store_at kc3 (by simp; omega) rfl rfl]
              simp only [OH_some]
              exact take (by simp only [minW', hg, if_true]; rw [if_pos (.inr hl2)])
            · rw [decide_eq_false hl2]
              simp only [iPick_f, OP_some, IfP_false]
              exact leave (by simp only [minW', hg, if_true]; rw [if_neg (fun h9 => h9.elim hneg hl2)])
    · have hie : i = j := by omega
      subst hie
      rw [q21z52]
      simp only [bin_add, OP_some, inc s (by omega), true_and]
      obtain ⟨e1, e2⟩ := EB_rec bs js i hs0
      rw [← e2] at kc2
      rw [← e1] at kw2
      refine hL (s + 1, _, _, g2) ⟨⟨by show 1 ≤ s + 1; omega, by show s + 1 ≤ 2 ^ i; omega⟩, x2, ⟨kc2, by rw [List.length_set]; exact cl⟩, ⟨kw2, by rw [List.length_set]; exact wl⟩, fun t ht => ?_, fun t ht => ?_⟩ (by show 2 ^ i - (s + 1) < 2 ^ i - s; omega)
      · have ht' : t < s + 1 := ht
        show (cs.set s (CB bs js i s)).getD t 0 = _ ∧ (ws.set s (WB bs js i s)).getD t 0 = _
        rw [getD_set (by omega), getD_set (by omega)]
        by_cases e : t = s
        · rw [if_pos e, if_pos e, e]; exact ⟨rfl, rfl⟩
        · rw [if_neg e, if_neg e]; exact htab t (by omega)
      · have ht' : s + 1 ≤ t := ht
        show (ws.set s (WB bs js i s)).getD t 0 = 0
        rw [getD_set (by omega), if_neg (by omega)]
        exact hzero t (by omega)

end Go.Proofs.Ytelmdbpaoifmoaa
