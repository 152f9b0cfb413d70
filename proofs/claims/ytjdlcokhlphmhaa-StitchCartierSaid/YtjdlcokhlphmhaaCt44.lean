/-
  The law of Cartier and Foata.
-/
import Derived.Test.YtjdlcokhlphmhaaMg7
import Derived.Test.YtjdlcokhlphmhaaMg8
import Derived.Test.YtjdlcokhlphmhaaMg2
namespace Go.Proofs.Ytjdlcokhlphmhaa
open Go.Sim

theorem bound25 : 7 * 512 ^ 25 < bigW := by unfold bigW; decide +kernel

theorem C6 {kk f x1 : Int} {h : Heap} {K : Value → Heap → Prop} (h0 : 0 ≤ kk) (h1 : kk < 256) (hx0 : 0 ≤ x1 ∧ x1 < 256) (hk : ∀ h', K (B true) h') : CallP Try.prog 6 [.agg #[.int .u8 kk, .int .u16 f], .int .u8 x1] h K := by
  refine f6 ?_
  have e1 : iBox 54 h (.agg #[.int .u8 kk, .int .u16 f]) = some (pt h.length 0, h ++ [.arr 54 [.int .u8 kk, .int .u16 f]]) := rfl
  have e2 : iLoad true 2 (h ++ [.arr 54 [.int .u8 kk, .int .u16 f]]) (pt h.length 0) = some (.agg #[.int .u8 kk, .int .u16 f]) := by simp [iLoad, objCells, iPart]
  simp only [T6, e1, OH_some, e2, OP_some]
  generalize h ++ [IObj.arr 54 [.int .u8 kk, .int .u16 f]] = hA
  refine C30 h0 h1 ?_
  intro n ps hn1 hn6 ht
  obtain ⟨hg, _, _, hl30, _⟩ := threadsOk_good ht
  have hps : PS (hA ++ [.arr 98 (pcells ps)]) (sl 98 hA.length 0 ps.length) ps := PS.sl (by simp [objCells])
  simp only [ext_tuple, pair0, pair1, OP_some]
  generalize sl 98 hA.length 0 ps.length = qv at hps ⊢
  generalize hA ++ [IObj.arr 98 (pcells ps)] = hB at hps ⊢
  obtain ⟨x, rfl⟩ : ∃ j : Nat, x1 = j := ⟨x1.toNat, by omega⟩
  simp only [conv_int, OP_some]
  rw [wrap64 (n := (x : Int)) (by omega) (by omega), show (.int .i64 24 : Value) = .int .i64 ((24 : Nat) : Int) from rfl, rem_nat _ _ _ (by decide)]
  have hm24 : x % 24 < 24 := Nat.mod_lt _ (by decide)
  simp only [OP_some, bin_add, inc (x % 24) (by omega)]
  generalize x % 24 = m at hm24 ⊢
  refine C23 hps (by omega) (fun hc => by rw [ht] at hc; cases hc) ?_
  intro n' hn' _ _ _ lv hC xC hd
  have hnn : n' = n := by omega
  subst hnn
  obtain ⟨hy7, hy64⟩ := cqL_small (cmOf ps) hn6
  obtain ⟨hy0, hy1⟩ := cqL_first (cmOf ps) hn1 hn6
  generalize hys : cqL (cmOf ps) n' = ys at hd hy7 hy64 hy0 hy1
  have hlen2 : 1 < ys.length := getD_len (by omega)
  have hpsC := hps.mono xC
  simp only [ext_tuple, pair0, pair1, OP_some, bin_neq, decide_true, Bool.not_true, q6z8, GdP_ff, hd.len, bin_lss, decide_eq_false (show ¬ (ys.length : Int) < 2 by omega), q6z10, iPick_f, q6z12]
  obtain ⟨j0, a0, b0⟩ := hd.get (j := 0) (by omega)
  obtain ⟨j1, a1, b1⟩ := hd.get (j := 1) (by omega)
  have a0' : iAdrSl 1 lv (I 0) = some (pt j0 0) := a0
  have a1' : iAdrSl 1 lv (I 1) = some (pt j1 1) := a1
  have y0 : ((ys[0] : Nat) : Int) = 1 := by
    have : ys[0] = ys.getD 0 0 := by simp [List.getD_eq_getElem?_getD, show 0 < ys.length by omega]
    omega
  have y1 : ((ys[1] : Nat) : Int) = n' := by
    have : ys[1] = ys.getD 1 0 := by simp [List.getD_eq_getElem?_getD, hlen2]
    omega
  simp only [a0', b0, OP_some, y0, bin_neq, decide_true, Bool.not_true, q6z14, iPick_f, q6z16, GdP_ff, a1', b1, y1, q6z18, q6z20]
  refine C20 ?_
  simp only [un_not, OP_some, Bool.not_true, q6z22, iPick_f, IfP_false]
  refine C35 (z := 0) (by decide) ?_
  intro r0 hD xD qd
  obtain ⟨u, w, rfl, hu, hw⟩ := qd
  have e3 : iAlloc 50 [(.bool false), (.slice none 0 0), (.bool false), (.slice none 0 0)] hD = some (pt hD.length 0, hD ++ [.arr 50 z4]) := rfl
  simp only [e3, OH_some]
  rw [store4 get_last]
  simp only [OH_some]
  have xE : EX hD ((hD ++ [IObj.arr 50 z4]).set hD.length (.arr 50 [B (decide ((0 : Int) < 0)), u, B (decide ((1 : Int) < 0)), w])) := EX.set (EX.append _ _) (Nat.le_refl _) _
  have kE : ((hD ++ [IObj.arr 50 z4]).set hD.length (.arr 50 [B (decide ((0 : Int) < 0)), u, B (decide ((1 : Int) < 0)), w]))[hD.length]? = some (.arr 50 [B (decide ((0 : Int) < 0)), u, B (decide ((1 : Int) < 0)), w]) := set_get get_last
  have hpsD := hpsC.mono xD
  have hdD := hd.mono xD
  have h512 : (512 : Nat) ^ (m + 2) ≤ 512 ^ 25 := Nat.pow_le_pow_right (by decide) (by omega)
  have hbig := bound25
  refine loopL (σ := Nat × Value × Value × Heap) (fun p => [I p.1]) (fun p => p.2.2.2)
    (fun p => p.1 ≤ ys.length ∧ EX hD p.2.2.2 ∧ p.2.2.2[hD.length]? = some (.arr 50 [B (decide (lsum ys (m + 1) p.1 < 0)), p.2.1, B (decide ((1 : Int) < 0)), p.2.2.1]) ∧ MagZ p.2.2.2 p.2.1 (lsum ys (m + 1) p.1).natAbs ∧ MagZ p.2.2.2 p.2.2.1 1) (fun p => ys.length - p.1)
    (0, u, w, (hD ++ [IObj.arr 50 z4]).set hD.length (.arr 50 [B (decide ((0 : Int) < 0)), u, B (decide ((1 : Int) < 0)), w])) rfl rfl ⟨Nat.zero_le _, xE, kE, hu.mono xE, hw.mono xE⟩ ?_
  rintro ⟨i, u, w, g⟩ ⟨hi, xg, kg, hu, hw⟩ L hL
  simp only at hi xg kg hu hw hL ⊢
  have dg := hdD.mono xg
  have pg := hpsD.mono xg
  -- the end
  have fin : (1 ≤ i ∧ (i = ys.length ∨ m + 1 < i)) → p6z45 Try.prog K (pt hD.length 0) g := by
    rintro ⟨hi1, he⟩
    have hz := lsum_zero ys hy0 hi1 hi he
    rw [q6z45]
    simp only [fadr_pt, Nat.zero_add, OP_some, load4a kg]
    refine C40 (⟨u, rfl, hu⟩ : ZV g _ (lsum ys (m + 1) i)) ?_
    intro h' x'
    rw [hz]
    show OP (some (B true)) _
    exact OP_some.2 (hk h')
  rw [q6z28]
  simp only [dg.len, OP_some, bin_lss]
  by_cases hil : i < ys.length
  · rw [decide_eq_true (show (i : Int) < (ys.length : Int) by omega)]
    simp only [q6z32, GdP_tt, bin_leq, OP_some, q6z34, iPick_t, IfP_dec]
    refine ⟨fun hle => ?_, fun hgt => fin ⟨by omega, .inr (by omega)⟩⟩
    have esub : IntKind.wrap .i64 (((m + 1 : Nat) : Int) - (i : Int)) = ((m + 1 - i : Nat) : Int) := by rw [wrap64 (by omega) (by omega)]; omega
    simp only [bin_sub, esub, OP_some]
    refine C22 pg (by omega) (fun hc => by
      exfalso
      rcases hc with hc | hc | hc
      · rw [ht] at hc; cases hc
      · omega
      · omega) ?_
    intro n2 m2 hn2 hm2 _ _ _ _ g2 x2
    have hnn : n2 = n' := by omega
    have hmm : m2 = m + 1 - i := by omega
    subst hnn hmm
    rw [hys]
    have hcb := cntF_bound ys hy64 hy7 (m + 1 - i)
    have hc25 : (512 : Nat) ^ (m + 1 - i) ≤ 512 ^ 25 := Nat.pow_le_pow_right (by decide) (by omega)
    have hcw : (cntF ys (m + 1 - i)).natAbs < bigW := by omega
    simp only [ext_tuple, pair0, pair1, OP_some, bin_neq, decide_true, Bool.not_true, q6z41, GdP_ff]
    refine C36 hcw ?_
    intro g3 x3
    have k3 := (x2.trans x3).get kg
    have hl3 := load4 k3
    obtain ⟨ja, c1, c2⟩ := (dg.mono (x2.trans x3)).get hil
    have hyi : ys[i] = ys.getD i 0 := by simp [List.getD_eq_getElem?_getD, hil]
    have hy64i := hy64 i
    simp only [un_not, OP_some, Bool.not_true, q6z43, iPick_f, IfP_false, hl3, true_and, c1, c2]
    rw [show (.int .i64 2 : Value) = .int .i64 ((2 : Nat) : Int) from rfl, rem_nat _ _ _ (by decide)]
    have hmod : i % 2 = 0 ∨ i % 2 = 1 := Nat.mod_two_eq_zero_or_one i
    have w1 : IntKind.wrap .i64 (((2 : Nat) : Int) * ((i % 2 : Nat) : Int)) = 2 * ((i % 2 : Nat) : Int) := wrap64 (by omega) (by omega)
    have w2 : IntKind.wrap .i64 (1 - 2 * ((i % 2 : Nat) : Int)) = 1 - 2 * ((i % 2 : Nat) : Int) := wrap64 (by omega) (by omega)
    have hsg : ((ys.getD i 0 : Int) * (1 - 2 * ((i % 2 : Nat) : Int))).natAbs ≤ 64 := by
      rw [Int.natAbs_mul, Int.natAbs_natCast]
      have : (1 - 2 * ((i % 2 : Nat) : Int)).natAbs = 1 := by omega
      rw [this]; omega
    have w3 : IntKind.wrap .i64 ((ys[i] : Int) * (1 - 2 * ((i % 2 : Nat) : Int))) = (ys.getD i 0 : Int) * (1 - 2 * ((i % 2 : Nat) : Int)) := by rw [hyi, wrap64 (by omega) (by omega)]
    simp only [OP_some, bin_mul, w1, bin_sub, w2, w3]
    refine C35 (by omega) ?_
    intro r4 g4 x4 q4
    refine ⟨⟨EX.load x4 hl3, trivial⟩, ?_⟩
    refine C39 hcw ?_
    intro r5 g5 x5 q5
    refine ⟨⟨EX.load (x4.trans x5) hl3, trivial⟩, ?_⟩
    have hone : (1 : Int).natAbs < bigW := lt_bigW (by decide +kernel)
    have h64 : 64 < bigW := lt_bigW (by decide +kernel)
    refine C38 (q4.mono x5) q5 (by omega) hone hcw hone ?_
    intro r6 g6 x6 q6
    refine ⟨⟨EX.load ((x4.trans x5).trans x6) hl3, trivial⟩, ?_⟩
    have xs := (x4.trans x5).trans x6
    have hls := lsum_bound ys hy64 hy7 (m + 1) i
    have hls' := lsum_bound ys hy64 hy7 (m + 1) (i + 1)
    have hlsw : (lsum ys (m + 1) i).natAbs < bigW := by
      have : i * 512 ^ (m + 1 + 1) ≤ 7 * 512 ^ 25 := Nat.mul_le_mul (by omega) h512
      omega
    have hprod : ((ys.getD i 0 : Int) * (1 - 2 * ((i % 2 : Nat) : Int)) * cntF ys (m + 1 - i)).natAbs < bigW := by
      rw [Int.natAbs_mul]
      refine Nat.lt_of_le_of_lt (Nat.mul_le_mul hsg hcb) ?_
      have h3 : (512 : Nat) ^ (m + 1 - i) ≤ 512 ^ 24 := Nat.pow_le_pow_right (by decide) (by omega)
      have h4 : 64 * (512 : Nat) ^ 24 < bigW := by unfold bigW; decide +kernel
      omega
    have zl : QZ g6 (.agg #[B (decide (lsum ys (m + 1) i < 0)), u, B (decide ((1 : Int) < 0)), w]) (lsum ys (m + 1) i) 1 := ⟨u, w, rfl, ((hu.mono (x2.trans x3)).mono xs), ((hw.mono (x2.trans x3)).mono xs)⟩
    rw [show (1 : Int) * 1 = 1 from rfl] at q6
    refine C37 zl q6 hlsw hone hprod hone (by rw [Int.mul_one]; exact hlsw) (by rw [Int.mul_one]; exact hprod) ?_
    intro r7 g7 x7 q7
    rw [Int.mul_one, Int.mul_one, show (1 : Int) * 1 = 1 from rfl] at q7
    have hnext : lsum ys (m + 1) i + (ys.getD i 0 : Int) * (1 - 2 * ((i % 2 : Nat) : Int)) * cntF ys (m + 1 - i) = lsum ys (m + 1) (i + 1) := by
      simp only [lsum]
      unfold lterm
      rw [if_neg (by omega)]
    rw [hnext] at q7
    obtain ⟨u', w', rfl, hu', hw'⟩ := q7
    have k7 := (xs.trans x7).get k3
    rw [store4 k7]
    simp only [OH_some, bin_add, OP_some, inc i (by omega), true_and]
    exact hL (i + 1, u', w', g7.set hD.length (.arr 50 [B (decide (lsum ys (m + 1) (i + 1) < 0)), u', B (decide ((1 : Int) < 0)), w'])) ⟨by show i + 1 ≤ ys.length; omega, (((xg.trans (x2.trans x3)).trans xs).trans x7).set (Nat.le_refl _) _, set_get k7, hu'.setB k7 _, hw'.setB k7 _⟩ (by show ys.length - (i + 1) < ys.length - i; omega)
  · have hie : i = ys.length := by omega
    rw [decide_eq_false (show ¬ (i : Int) < (ys.length : Int) by omega)]
    simp only [q6z32, GdP_ft, q6z34, iPick_f, OP_some, IfP_false]
    exact fin ⟨by omega, .inl hie⟩

end Go.Proofs.Ytjdlcokhlphmhaa
